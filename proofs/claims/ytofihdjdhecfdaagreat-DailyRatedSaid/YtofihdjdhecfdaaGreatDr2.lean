/-
 What functions of the Go text compute, as plain functions, and that they do, part 2 of 4. Conditions: what each theorem names.
-/
import Derived.Test.YtofihdjdhecfdaaGreatDr1
import Derived.Test.YtofihdjdhecfdaaGreatProg
set_option linter.unusedVariables false
set_option linter.unusedSimpArgs false
set_option maxRecDepth 100000
set_option maxHeartbeats 4000000
namespace Go.Nilo
open Go.Proofs


def iS (N:Nat) (x:Int) (B:Int):Option (cY (Int × Int) (Int × Int)) :=
 some (.cont (B,W (x + 1)))
def gR (N:Nat) (B:List Int) (H:(List aA) × Int) (D:Int) (x:Int):Option (cY (Int × Int) (Int × Int)) :=
 cond (decide (x < ((H.1.length:Nat):Int)))
 (Option.bind (bG H.1 x) fun I=>
 Option.bind (bG B x) fun R=>
 cond (!(aG R I.Lo I.Hi))
 (some (.ret (0,7)))
 (cond (decide (0 < x))
 (Option.bind (bG B x) fun J=>
 Option.bind (bG B (W (x - 1))) fun M=>
 Option.bind (mN N J M) fun O=>
 iS N x (W (D + O)))
 (iS N x D)))
 (some (.brk (D,x)))
def mR (N:Nat) (r:aH) (B:List Int):Option (Int × Int) :=
 Option.bind (gK N r) (yA (fun I=>cond (I != 0)
 (some (0,I))
 (cond (((B.length:Nat):Int) != ((r.Gaugings.length:Nat):Int))
 (some (0,2))
 (none)))
 (fun H=>cond (H.2 != 0)
 (some (0,H.2))
 (cond (((B.length:Nat):Int) != ((r.Gaugings.length:Nat):Int))
 (some (0,2))
 (Option.bind (bE (fun D=>gR N B H D.1 D.2) N (0,0)) fun J=>
 exK J (fun D=>some (D.1,0)) some))))
theorem aA8 {N:Nat} {G:aS} {Lf:List Ent} {w:World} (r:aH) (M:List Int) {U:Option Addr} {X:Nat} {J:Option Addr} {I:Nat} {B:Option Addr} {D:Nat} (V:Rd G 2 U X (r.Rating.map aW)) (H:Rd G 4 J I (r.Gaugings.map aX)) (O:Rd G 1 B D (M.map aD)) (hc:Ctx G (Lf) w) {m:Int × Int} (hF:mR N r M=some m):Calls Tryz.prog 7 #[.agg #[.slice U r.Rating.length X,.slice J r.Gaugings.length I],.slice B M.length D] w (fun e w=>e=.returned (.tuple #[i6 m.1,i6 m.2])∧Ctx G (Lf) w):=by
 unfold mR at hF
 refine cB Tryz.func7 rfl Tryz.ntmps7 rfl fun a hf=>zS fun K h=>zB hf hc rfl fun bj a w hf hc=>sp 2 hf rfl fun a hf=>zT h ?_
 refine zS fun K h=>zN hf hc vY m0 rfl fun a w hf hc=>?_
 obtain ⟨ac,s,hF⟩:=aB hF
 cases ac with
 | inl ac=>
  replace hF:=yX hF
  refine zC hf aCk rfl (iT r V H hc s) ?_
  rintro _ w ⟨rfl,hc⟩
  refine ⟨_,rfl,fun a hf=>?_⟩
  refine sp 5 hf rfl fun a hf=>zT h ?_
  refine wp_seq_k fun K3 h3=>wp_block ?_
  refine zS fun K h=>sp 3 hf rfl fun a hf=>zT h ?_
  refine zI hf rfl hF ?_ ?_ <;> clear hF <;> intro hF
  ·refine zS fun K h=>sp 3 hf rfl fun a hf=>zT h ?_
   refine wp_ret ?_
   refine bU ?_
   refine aO ?_
   obtain rfl:=sj hF
   replace hc:=hc.drop k0
   exact zO2 Tryz.results7 hf rfl rfl ⟨rfl,hc⟩
  ·refine zS fun K h=>sp 1 hf rfl fun a hf=>zP hf rfl (bM Tryz.underlying27 rfl) fun a hf=>zP hf rfl (pFA jQ rfl) fun a hf=>zL hf hc qK m0 rfl fun a w hf hc=>zP hf rfl (bM Tryz.underlying24 rfl) fun a hf=>sp 2 hf rfl fun a hf=>zT h ?_
   refine zI hf rfl hF ?_ ?_ <;> clear hF <;> intro hF
   ·refine zS fun K h=>sp 2 hf rfl fun a hf=>zT h ?_
    refine wp_ret ?_
    refine bU ?_
    refine aO ?_
    obtain rfl:=sj hF
    replace hc:=hc.drop k0
    exact zO2 Tryz.results7 hf rfl rfl ⟨rfl,hc⟩
   ·refine wp_skip ?_
    refine h3 _ _ ?_
    refine zS fun K h=>sp 1 hf rfl fun a hf=>zT h ?_
    refine wp_seq_k fun K9 h9=>wp_seq_k fun K10 bb=>wX hF
 | inr d=>
  replace hF:=yU hF
  have az:=s
  refine zC hf aCk rfl (iT r V H hc az) ?_
  rintro _ w ⟨bf,a5,a7,rfl,hc⟩
  refine ⟨_,rfl,fun a hf=>?_⟩
  refine sp 5 hf rfl fun a hf=>zT h ?_
  refine wp_seq_k fun K11 a1=>wp_block ?_
  refine zS fun K h=>sp 3 hf rfl fun a hf=>zT h ?_
  refine zI hf rfl hF ?_ ?_ <;> clear hF <;> intro hF
  ·refine zS fun K h=>sp 3 hf rfl fun a hf=>zT h ?_
   refine wp_ret ?_
   refine bU ?_
   refine aO ?_
   obtain rfl:=sj hF
   replace hc:=((hc.drop k2).drop k1).drop k0
   exact zO2 Tryz.results7 hf rfl rfl ⟨rfl,hc⟩
  ·refine zS fun K h=>sp 1 hf rfl fun a hf=>zP hf rfl (bM Tryz.underlying27 rfl) fun a hf=>zP hf rfl (pFA jQ rfl) fun a hf=>zL hf hc qK m2 rfl fun a w hf hc=>zP hf rfl (bM Tryz.underlying24 rfl) fun a hf=>sp 2 hf rfl fun a hf=>zT h ?_
   refine zI hf rfl hF ?_ ?_ <;> clear hF <;> intro hF
   ·refine zS fun K h=>sp 2 hf rfl fun a hf=>zT h ?_
    refine wp_ret ?_
    refine bU ?_
    refine aO ?_
    obtain rfl:=sj hF
    replace hc:=((hc.drop k2).drop k1).drop k0
    exact zO2 Tryz.results7 hf rfl rfl ⟨rfl,hc⟩
   ·refine wp_skip ?_
    refine a1 _ _ ?_
    refine zS fun K h=>sp 1 hf rfl fun a hf=>zT h ?_
    refine wp_seq_k fun K17 a4=>zS fun K h=>sp 2 hf rfl fun a hf=>zP hf rfl (pFA xL rfl) fun a hf=>zL hf hc oW m1 rfl fun a w hf hc=>zP hf rfl (bM Tryz.underlying54 rfl) fun a hf=>sp 1 hf rfl fun a hf=>zT h ?_
    refine wp_block ?_
    obtain ⟨t,an,hF⟩:=aB hF
    let S19:(Int × Int)→Act→World→Prop:=(fun (zz:Int × Int) a w=>∃ (k:Option Addr) (b:Nat),Has 63 a [(1,.slice B M.length D),(8,i6 zz.1),(30,.slice k d.1.length b),(31,i6 ((d.1.length:Nat):Int)),(32,i6 zz.2)]∧Ctx G (.row k b (d.1.map aC) 41 2::Lf) w)
    have aj:∀ (zz:Int × Int) a w,t=.go zz→S19 zz a w→K17 a w:=by
     rintro ⟨u,x⟩ a w rfl ⟨k,b,hf,hc⟩
     replace hF:=bW hF
     refine a4 _ _ ?_
     refine zS fun K h=>sp 3 hf rfl fun a hf=>zT h ?_
     refine wp_ret ?_
     obtain rfl:=sj hF
     replace hc:=hc.drop k0
     exact zO2 Tryz.results7 hf rfl rfl ⟨rfl,hc⟩
    have ak:∀ r,t=.out r→r=m:=by
     rintro r rfl
     exact sj hF
    replace hc:=(hc.drop k2).drop k1
    refine dO N (dH (S:=S19) (x:=t) ?_ N (0,0) _ _ ⟨a5,a7,hf.kp rfl,hc⟩ an)
    clear hF hf hc
    rintro ⟨u,x⟩ av a w KB19 ⟨k,b,hf,hc⟩ hF R ag
    unfold gR at hF
    refine zS fun K h=>sp 1 hf rfl fun a hf=>zT h ?_
    refine wp_seq_k fun K22 a8=>zI hf rfl hF ?_ ?_ <;> clear hF <;> intro hF
    ·refine wp_skip ?_
     refine a8 _ _ ?_
     refine wp_seq_k fun K23 a6=>?_
     have y:∀ (Z:Int) (p:Option Addr) (q:Nat) a w,Has 63 a [(1,.slice B M.length D),(8,i6 Z),(30,.slice p d.1.length q),(31,i6 ((d.1.length:Nat):Int)),(32,i6 x)]→Ctx G (.row p q (d.1.map aC) 41 2::Lf) w→iS N x Z=some av→K23 a w:=by
      repeat (clear hF)
      repeat (clear hc)
      repeat (clear hf)
      intro Z p q a w hf hc hF
      unfold iS at hF
      refine a6 _ _ ?_
      refine dE ?_
      refine sp 2 hf rfl fun a hf=>aP ?_
      exact ag (Z,W (x + 1)) _ _ (sj hF).symm ⟨p,q,hf.kp rfl,hc⟩
     refine wp_block ?_
     refine zS fun K h=>sp 1 hf rfl fun a hf=>?_
     obtain ⟨Y,ay,hF⟩:=aB hF
     obtain ⟨g,rfl,qa,qr⟩:=gH hc m0 ay
     refine zP hf rfl (pIA Tryz.underlying54 cA rfl rfl qa) fun a hf=>zE hf hc rfl (jM (vs:=[i6 Y.Lo,i6 Y.Hi]) eA rfl rfl (qJ (sz:=2) (i:=x.toNat) m0 qr (n:=2) (o':=0) rfl)) fun a w hf hc=>zA hf hc kX rfl fun bd a w hf hc=>sp 1 hf rfl fun a hf=>zW hf hc cA u0 rfl fun w hc=>zT h ?_
     refine wp_seq_k fun K25 a2=>wp_seq_k fun K26 a3=>?_
     obtain ⟨z,am,hF⟩:=aB hF
     obtain ⟨bi,o,au,qp⟩:=O.atm am
     refine cQ hc aT (by kernel_rfl) ?_
     refine qE hf rfl rfl rfl (Pu.ev (pM rfl)) fun a hf=>qE hf rfl rfl rfl (Pu.ev (pM rfl)) fun a hf=>qE hf rfl rfl rfl (Pu.ev (pIA Tryz.underlying27 eL rfl rfl au)) fun a hf=>qE hf rfl rfl rfl (cE aU rfl (dX (j:=0) qp rfl)) fun a hf=>qE hf rfl rfl rfl (Pu.ev (pFA dS rfl)) fun a hf=>qE hf rfl rfl rfl (cE aU rfl (bR m0 rfl)) fun a hf=>qE hf rfl rfl rfl (Pu.ev (pFA dC rfl)) fun a hf=>qE hf rfl rfl rfl (cE aU rfl (bR m0 rfl)) fun a hf=>qE hf rfl rfl rfl (eC (v:=.bool (aG z Y.Lo Y.Hi)) (vs:=[i6 z,i6 Y.Lo,i6 Y.Hi]) (caps:=[]) rI rfl rfl rfl rfl (fun w hc=>eO z Y.Lo Y.Hi hc rfl)) fun a hf=>qE hf rfl rfl rfl (Pu.ev (pNot rfl)) fun a hf=>?_
     intro w hc
     refine a3 _ _ ?_
     refine zI hf rfl hF ?_ ?_ <;> clear hF <;> intro hF
     ·refine zS fun K h=>sp 2 hf rfl fun a hf=>zT h ?_
      refine wp_ret ?_
      refine aO ?_
      refine bU ?_
      refine aO ?_
      refine aO ?_
      have he:=sj hF
      rw [← he] at R
      replace hF:=ak _ R
      refine bU ?_
      refine aO ?_
      obtain rfl:=hF
      replace hc:=(hc.drop k1).drop k0
      exact zO2 Tryz.results7 hf rfl rfl ⟨rfl,hc⟩
     ·refine wp_skip ?_
      refine a2 _ _ ?_
      refine zS fun K h=>sp 2 hf rfl fun a hf=>zT h ?_
      refine zI hf rfl hF ?_ ?_ <;> clear hF <;> intro hF
      ·obtain ⟨aa,ar,hF⟩:=aB hF
       obtain ⟨ba,bg,ai,aq⟩:=O.atm ar
       obtain ⟨ab,ap,hF⟩:=aB hF
       obtain ⟨bc,a9,af,ax⟩:=O.atm ap
       obtain ⟨ad,a0,hF⟩:=aB hF
       refine cQ hc aT (by kernel_rfl) ?_
       refine qE hf rfl rfl rfl (Pu.ev (pM rfl)) fun a hf=>qE hf rfl rfl rfl (Pu.ev (pM rfl)) fun a hf=>qE hf rfl rfl rfl (Pu.ev (pM rfl)) fun a hf=>qE hf rfl rfl rfl (Pu.ev (pIA Tryz.underlying27 eL rfl rfl ai)) fun a hf=>qE hf rfl rfl rfl (cE aU rfl (dX (j:=0) aq rfl)) fun a hf=>qE hf rfl rfl rfl (Pu.ev (pM rfl)) fun a hf=>qE hf rfl rfl rfl (Pu.ev (pM rfl)) fun a hf=>qE hf rfl rfl rfl (Pu.ev (aBy rfl rfl)) fun a hf=>qE hf rfl rfl rfl (Pu.ev (pIA Tryz.underlying27 eL rfl rfl af)) fun a hf=>qE hf rfl rfl rfl (cE aU rfl (dX (j:=0) ax rfl)) fun a hf=>qE hf rfl rfl rfl (eC (v:=i6 ad) (vs:=[i6 aa,i6 ab]) (caps:=[]) aK7 rfl rfl rfl rfl (fun w hc=>uS aa ab hc a0)) fun a hf=>qE hf rfl rfl rfl (Pu.ev (aBv rfl rfl)) fun a hf=>qE hf rfl rfl rfl (Pu.ev (pA rfl)) fun a hf=>?_
       intro w hc
       replace hc:=hc.drop k0
       exact y (W (u + ad)) (some ⟨g,0,none⟩) b _ _  (hf.kp rfl) hc hF
      ·refine wp_skip ?_
       replace hc:=hc.drop k0
       exact y u (some ⟨g,0,none⟩) b _ _  (hf.kp rfl) hc hF
    ·refine wp_exit ?_
     refine aV ?_
     refine aV ?_
     have he:=sj hF
     rw [← he] at R
     refine eW ?_
     exact aj _ _ _ R ⟨k,b,hf.kp rfl,hc⟩

def bZ (N:Nat) (s_:List aA) (i_:Int) (v:List aA):Option ((List aA)) :=
 insO s_ i_ v
/-! ### Walks of the library -/
section
open Go.RowKit Go.Lib
theorem iX29:(Tryz.prog.info? 41).map (fun i=>(i.zero,i.size,i.bytes))=some (some (Value.agg #[i6 0,i6 0]),2,16):=by kernel_rfl
theorem soX29:∀ w:World,(Go.sizeOf 41).run Tryz.prog w=.ok 2 w:=fun w=>by
 obtain ⟨i0,B,I,D,H⟩:=info_parts iX29
 simp [Go.sizeOf,typeInfo,B,D]
theorem aFz:(Tryz.prog.info? 41).map (·.size)=some 2:=by kernel_rfl
set_option maxHeartbeats 4000000 in
set_option maxRecDepth 1000000 in
theorem aEe (b n c i vb m vc:Nat) (cs vs:List Value) (w:World) (hi:i < n) (hm:0 < m) (y:n + m≤c) (z:c≤9223372036854775807) (M:vb ≠ b)
  (V:cs.length=n * 2) (r:vs.length=m * 2)
  (U:∀ j v,cs[j]?=some v→w.cell? ⟨b,j,none⟩=some v) (H:∀ j,j < (n + m) * 2→(w.cell? ⟨b,j,none⟩).isSome=true) (J:∀ j,j < (n + m) * 2→w.frozen? ⟨b,j,none⟩=false)
  (g:∀ j v,vs[j]?=some v→w.cell? ⟨vb,j,none⟩=some v) (s:∀ v ∈ cs,v.oneCell'=true) (Y:∀ v ∈ vs,v.oneCell'=true)
  (tA tB:TypeId) (kA kB:Nat) (d:w.shape? vb=some (tA,kA)) (o:w.shape? b=some (tB,kB)) (u:kB ≠ 0) (q:w.frozen? ⟨vb,0,none⟩=false) (X:w.frozen? ⟨vb,kA,none⟩=false) :
  Calls Tryz.prog 29 #[.slice (some ⟨b,0,none⟩) n c,i6 i,.slice (some ⟨vb,0,none⟩) m vc] w fun e w'=>
   e=.returned (.slice (some ⟨b,0,none⟩) (n + m) c)∧w'=(w.drew.setCells b ((i + m) * 2) (cs.drop (i * 2))).setCells b (i * 2) vs:=by
 have ag:¬ ((m:Int)=0):=by omega
 have ai:¬ ((i:Int)=(n:Int)):=by omega
 have Z:∀ lb cb,(callFunc 64 #[.slice (some ⟨vb,0,none⟩) m vc,.slice (some ⟨b,(i + m) * 2,none⟩) lb cb]).run Tryz.prog w=.ok (.value (.bool false)) w:=fun lb cb=>by
  rw [run_callFunc_extern Tryz.func64 (by kernel_rfl) (by kernel_rfl) (by kernel_rfl) (e:=Extern.SlicesOverlaps.overlaps #[54,54] #[4]) (by kernel_rfl),
   Lib.run_overlaps_apart w 54 4 41 Tryz.underlying54 2 soX29 ⟨vb,0,none⟩ ⟨b,(i + m) * 2,none⟩ m vc lb cb M tA tB kA kB d o u q X]
  rfl
 have p:(cs.drop (i * 2)).length=(n - i) * 2:=by rw [List.length_drop,V]; omega
 have aa:IntKind.i64.wrap ((i:Int) + (m:Int))=(i:Int) + (m:Int):=by rw [IntKind.wrap_i64]; omega
 have ak:(0:Int)≤(i:Int) + (m:Int):=by omega
 have ab:i≤n:=by omega
 have af:((i:Int) + (m:Int)).toNat=i + m:=by omega
 have ac:¬ (c=i + m):=by omega
 have ad:(i:Int)≤(n:Int) + (m:Int):=by omega
 have aj:¬ (c=i):=by omega
 have B:Nat.min (n + m - i) (n + m - (i + m))=n - i:=by simp only [Nat.min_def]; split <;> omega
 have D:Nat.min m (n + m - i)=m:=by simp only [Nat.min_def]; split <;> omega
 have I:∀ ty dc sc,(Builtin.copy_ #[54,54] ty #[.slice (some ⟨b,(i + m) * 2,none⟩) (n + m - (i + m)) dc,.slice (some ⟨b,i * 2,none⟩) (n + m - i) sc]).run Tryz.prog w.drew=.ok (goInt (Nat.min (n + m - i) (n + m - (i + m)))) (w.drew.setCells b ((i + m) * 2) (cs.drop (i * 2))):=fun ty dc sc=>
  Go.Nilo.oN w.drew _ _ ty 41 b ((i + m) * 2) (n + m - (i + m)) dc ⟨b,i * 2,none⟩ (n + m - i) sc 2 (cs.drop (i * 2)) Tryz.underlying54 aFz (by rw [p,B])
   (fun j v hj=>by rw [Addr.add_lit]; exact U (i * 2 + j) v (by rwa [List.getElem?_drop] at hj))
   (fun j hj=>H _ (by omega)) (fun j hj=>J _ (by omega)) (fun v hv=>s v (List.mem_of_mem_drop hv))
 obtain ⟨W1,hW1⟩:∃ W1,W1=w.drew.setCells b ((i + m) * 2) (cs.drop (i * 2)):=⟨_,rfl⟩
 have S:∀ k,k < (n + m) * 2→(W1.cell? ⟨b,k,none⟩).isSome=true:=fun k hk=>by
  rw [hW1]
  exact Go.Proofs.isSome_setCells b (cs.drop (i * 2)) ((i + m) * 2) w.drew (fun j hj=>H _ (by omega)) _ (H k hk)
 have R:∀ (W:World),(∀ x,W.cell? x=W1.cell? x)→(∀ x,W.frozen? x=W1.frozen? x)→∀ ty dc,(Builtin.copy_ #[54,54] ty #[.slice (some ⟨b,i * 2,none⟩) (n + m - i) dc,.slice (some ⟨vb,0,none⟩) m vc]).run Tryz.prog W=.ok (goInt (Nat.min m (n + m - i))) (W.setCells b (i * 2) vs):=fun W O t ty dc=>
  Go.Nilo.oN W _ _ ty 41 b (i * 2) (n + m - i) dc ⟨vb,0,none⟩ m vc 2 vs Tryz.underlying54 aFz (by rw [r,D])
   (fun j v hj=>by
    rw [Addr.add_lit,O,hW1,World.cell?_setCells_out b _ _ _ _ (fun h _=>absurd h M),Nat.zero_add]
    exact g j v hj)
   (fun j hj=>by rw [O]; exact S _ (by omega)) (fun j hj=>by rw [t,hW1,World.frozen?_setCells]; exact J _ (by omega)) Y
 rw [← hW1] at I
 clear B D
 go_enter Tryz.func29,Tryz.ntmps29
 go_wp2_with (simp only [Z])
 go_region_law (refine Go.Proofs.step_copy_runI rfl _ _ 54 54 rfl _ _ (by simp [Act.eval,Act.put]) (by simp [Act.eval,Act.put]) (I _ _ _) ?_)
 go_wp2_with (at_builtin; refine Go.Proofs.wpList_copy_runI _ rfl _ _ 54 54 rfl _ _ rfl rfl (R _ (fun _=>rfl) (fun _=>rfl) _ _) ?_)
 go_ret
 first | exact ⟨rfl,rfl⟩ | exact ⟨rfl,by rw [hW1]⟩

set_option maxHeartbeats 4000000 in
set_option maxRecDepth 1000000 in
theorem aE0 (b n c i vb m vc:Nat) (cs vs:List Value) (w:World) (hi:i < n) (hm:0 < m) (ap:n≤c) (S:c < n + m) (Z:(n + m) * 16≤140737488355328)
  (o:cs.length=n * 2) (y:vs.length=m * 2)
  (U:∀ j v,cs[j]?=some v→w.cell? ⟨b,j,none⟩=some v)
  (af:∀ j v,vs[j]?=some v→w.cell? ⟨vb,j,none⟩=some v) (ai:∀ v ∈ cs,v.oneCell'=true) (p:∀ v ∈ vs,v.oneCell'=true) (k:b < w.heap.size) (ak:vb < w.heap.size) :
  Calls Tryz.prog 29 #[.slice (some ⟨b,0,none⟩) n c,i6 i,.slice (some ⟨vb,0,none⟩) m vc] w fun e w'=>
   e=.returned (.slice (some ⟨w.heap.size,0,none⟩) (n + m) (grownCap w (n + m) c 41)) ∧
   w'=(((w.alloc (.cells ((cs.take (i * 2)).toArray++Builtin.zeroCells (Value.agg #[i6 0,i6 0]).cells (n + m - i)++Builtin.zeroCells (Value.agg #[i6 0,i6 0]).cells (grownCap w (n + m) c 41 - (n + m))) 41)).drew.setCells w.heap.size (i * 2) vs).drew).setCells w.heap.size ((i + m) * 2) (cs.drop (i * 2)):=by
 obtain ⟨i0,ac,ad,aa,Y⟩:=info_parts iX29
 have au:¬ ((m:Int)=0):=by omega
 have av:¬ ((i:Int)=(n:Int)):=by omega
 have a3:(c:Int) < (n:Int) + (m:Int):=by omega
 have X:(n:Int) + (m:Int) - (i:Int)=((n + m - i:Nat):Int):=by omega
 have O:i + (n + m - i)=n + m:=by omega
 have M:(Builtin.firstCells i0.size i (.slice (some ⟨b,0,none⟩) i c)).run Tryz.prog w.drew=.ok (cs.take (i * 2)).toArray w.drew:=by
  rw [aa]
  exact run_firstCells_some w.drew 2 i ⟨b,0,none⟩ i c (cs.take (i * 2)) (by rw [List.length_take]; omega) (fun j v hj=>by
   rw [Addr.add_lit]
   rw [List.getElem?_take] at hj
   split at hj
   ·rw [Nat.zero_add]; exact U j v hj
   ·cases hj)
 have H:∀ ty,(Builtin.append_ #[54,3] ty #[.slice (some ⟨b,0,none⟩) i c,i6 ((n:Int) + (m:Int) - (i:Int))]).run Tryz.prog w =
   .ok (.slice (some ⟨w.heap.size,0,none⟩) (n + m) (grownCap w (n + m) c 41)) (w.drew.alloc (.cells ((cs.take (i * 2)).toArray++Builtin.zeroCells (Value.agg #[i6 0,i6 0]).cells (n + m - i)++Builtin.zeroCells (Value.agg #[i6 0,i6 0]).cells (grownCap w (n + m) c 41 - (n + m))) 41)):=fun ty=>by
  have h:=Lib.run_append_grow_zeros w 54 3 ty 41 i0 _ .i64 .i64 Tryz.underlying54 Tryz.underlying3 ac ad (some ⟨b,0,none⟩) i c (cs.take (i * 2)) M (n + m - i) (by omega) (by omega) (by omega) (by omega) (by rw [Y]; omega) (by rw [Y,O]; exact growslice_fits S Z)
  rw [O] at h
  rw [X]
  exact h
 obtain ⟨G,hG⟩:∃ G,G=grownCap w (n + m) c 41:=⟨_,rfl⟩
 obtain ⟨ROW,hROW⟩:∃ ROW:Array Value,ROW=(cs.take (i * 2)).toArray++Builtin.zeroCells (Value.agg #[i6 0,i6 0]).cells (n + m - i)++Builtin.zeroCells (Value.agg #[i6 0,i6 0]).cells (G - (n + m)):=⟨_,rfl⟩
 rw [← hG] at H ⊢
 rw [← hROW] at H ⊢
 have q:(n + m) * 2≤ROW.size:=by
  rw [hROW,Array.size_append,Array.size_append,size_zeroCells,size_zeroCells,List.size_toArray,List.length_take]
  have:(Value.agg #[i6 0,i6 0]).cells.size=2:=by decide
  rw [this]
  omega
 obtain ⟨W1,hW1⟩:∃ W1,W1=w.drew.alloc (.cells ROW 41):=⟨_,rfl⟩
 rw [← hW1] at H
 have hN:∀ j,j < (n + m) * 2→(W1.cell? ⟨w.heap.size,j,none⟩).isSome=true:=fun j hj=>by
  rw [hW1,World.cell?_alloc_at (w:=w.drew) ROW _ w.heap.size j rfl,Array.getElem?_eq_getElem (by omega)]; rfl
 have V:∀ j,W1.frozen? ⟨w.heap.size,j,none⟩=false:=fun j=>by rw [hW1]; exact World.frozen?_alloc_at (w:=w.drew) ROW _ w.heap.size j rfl
 have r:∀ j v,w.cell? ⟨b,j,none⟩=some v→W1.cell? ⟨b,j,none⟩=some v:=fun j v h=>by rw [hW1,World.cell?_alloc_past (w:=w.drew) _ b j k]; exact h
 have aj:∀ j v,w.cell? ⟨vb,j,none⟩=some v→W1.cell? ⟨vb,j,none⟩=some v:=fun j v h=>by rw [hW1,World.cell?_alloc_past (w:=w.drew) _ vb j ak]; exact h
 have D:Nat.min m (n + m - i)=m:=by simp only [Nat.min_def]; split <;> omega
 have I:Nat.min (n - i) (n + m - (i + m))=n - i:=by simp only [Nat.min_def]; split <;> omega
 have d:∀ (W:World),(∀ x,W.cell? x=W1.cell? x)→(∀ x,W.frozen? x=W1.frozen? x)→∀ ty dc,(Builtin.copy_ #[54,54] ty #[.slice (some ⟨w.heap.size,i * 2,none⟩) (n + m - i) dc,.slice (some ⟨vb,0,none⟩) m vc]).run Tryz.prog W=.ok (goInt (Nat.min m (n + m - i))) (W.setCells w.heap.size (i * 2) vs):=fun W B J ty dc=>
  Go.Nilo.oN W _ _ ty 41 w.heap.size (i * 2) (n + m - i) dc ⟨vb,0,none⟩ m vc 2 vs Tryz.underlying54 aFz (by rw [y,D])
   (fun j v hj=>by rw [Addr.add_lit,B,Nat.zero_add]; exact aj _ v (af j v hj))
   (fun j hj=>by rw [B]; exact hN _ (by omega)) (fun j hj=>by rw [J]; exact V _) p
 have aq:n + m≤G:=by rw [hG]; exact grownCap_ge w _ _ _
 have am:G≤9223372036854775807:=by
  have:=grownCap_le_maxLen w (n + m) c 41 (by unfold maxLen; omega)
  rw [← hG] at this
  unfold maxLen at this
  omega
 have a2:¬ (G=i):=by omega
 have an:¬ (G=i + m):=by omega
 have ay:¬ (c=i):=by omega
 have u:b ≠ w.heap.size:=by omega
 have ag:(cs.drop (i * 2)).length=(n - i) * 2:=by rw [List.length_drop,o]; omega
 have R:∀ (W:World),(∀ x,W.cell? x=(W1.setCells w.heap.size (i * 2) vs).cell? x)→(∀ x,W.frozen? x=(W1.setCells w.heap.size (i * 2) vs).frozen? x)→∀ ty dc sc,(Builtin.copy_ #[54,54] ty #[.slice (some ⟨w.heap.size,(i + m) * 2,none⟩) (n + m - (i + m)) dc,.slice (some ⟨b,i * 2,none⟩) (n - i) sc]).run Tryz.prog W=.ok (goInt (Nat.min (n - i) (n + m - (i + m)))) (W.setCells w.heap.size ((i + m) * 2) (cs.drop (i * 2))):=fun W B J ty dc sc=>
  Go.Nilo.oN W _ _ ty 41 w.heap.size ((i + m) * 2) (n + m - (i + m)) dc ⟨b,i * 2,none⟩ (n - i) sc 2 (cs.drop (i * 2)) Tryz.underlying54 aFz (by rw [ag,I])
   (fun j v hj=>by
    rw [Addr.add_lit,B,World.cell?_setCells_out _ _ _ _ _ (fun h _=>absurd h u)]
    exact r _ v (U (i * 2 + j) v (by rwa [List.getElem?_drop] at hj)))
   (fun j hj=>by rw [B]; exact Go.Proofs.isSome_setCells _ vs _ _ (fun t ht=>hN _ (by omega)) _ (hN _ (by omega)))
   (fun j hj=>by rw [J,World.frozen?_setCells]; exact V _) (fun v hv=>ai v (List.mem_of_mem_drop hv))
 subst hW1
 have s:∀ x,((w.alloc (.cells ROW 41)).drew).cell? x=(w.drew.alloc (.cells ROW 41)).cell? x:=fun x=>rfl
 have ab:∀ x,((w.alloc (.cells ROW 41)).drew).frozen? x=(w.drew.alloc (.cells ROW 41)).frozen? x:=fun x=>rfl
 have g:∀ x,(((w.alloc (.cells ROW 41)).drew.setCells w.heap.size (i * 2) vs).drew).cell? x=((w.drew.alloc (.cells ROW 41)).setCells w.heap.size (i * 2) vs).cell? x:=fun x=>rfl
 have z:∀ x,(((w.alloc (.cells ROW 41)).drew.setCells w.heap.size (i * 2) vs).drew).frozen? x=((w.drew.alloc (.cells ROW 41)).setCells w.heap.size (i * 2) vs).frozen? x:=fun x=>rfl
 have az:IntKind.i64.wrap ((i:Int) + (m:Int))=(i:Int) + (m:Int):=by rw [IntKind.wrap_i64]; omega
 have ax:(0:Int)≤(i:Int) + (m:Int):=by omega
 have a0:i≤n:=by omega
 have ar:((i:Int) + (m:Int)).toNat=i + m:=by omega
 have a1:(i:Int)≤(n:Int):=by omega
 clear X O M hROW hG q D I
 go_enter Tryz.func29,Tryz.ntmps29
 go_wp2_with (first
  | (at_builtin; refine Lib.wpList_append_run _ rfl _ _ _ _ rfl _ _ rfl rfl _ _ (H _) ?_)
  | (at_builtin; refine Go.Proofs.wpList_copy_runI _ rfl _ _ 54 54 rfl _ _ rfl rfl (d _ s ab _ _) ?_)
  | (at_builtin; refine Go.Proofs.wpList_copy_runI _ rfl _ _ 54 54 rfl _ _ rfl rfl (R _ (fun _=>rfl) (fun _=>rfl) _ _ _) ?_))
 go_region_law (refine Go.Proofs.step_copy_runI rfl _ _ 54 54 rfl (.slice (some ⟨w.heap.size,(i + m) * 2,none⟩) (n + m - (i + m)) (G - (i + m))) (.slice (some ⟨b,i * 2,none⟩) (n - i) (c - i)) (by simp [Act.eval,Act.put]) (by simp [Act.eval,Act.put]) (R _ g z 3 (G - (i + m)) (c - i)) ?_)
 go_wp2
 go_ret
 exact ⟨rfl,rfl⟩

set_option maxHeartbeats 4000000 in
set_option maxRecDepth 1000000 in
theorem aG5 (p:Option Addr) (n B:Nat) (q:Option Addr) (m vc:Nat) (w w':World) (r:Value) (hm:0 < m) (hn:n≤B) (D:B≤9223372036854775807)
  (hr:∀ ty,(Builtin.append_ #[54,54] ty #[.slice p n B,.slice q m vc]).run Tryz.prog w=.ok r w') :
  Calls Tryz.prog 29 #[.slice p n B,i6 n,.slice q m vc] w fun e w2=>e=.returned r∧w2=w':=by
 have H:¬ ((m:Int)=0):=by omega
 go_enter Tryz.func29,Tryz.ntmps29
 go_wp2_with (at_builtin; refine Lib.wpList_append_run _ rfl _ _ _ _ rfl _ _ rfl rfl _ _ (hr _) ?_)
 all_goals (go_ret; exact ⟨rfl,rfl⟩)
end

theorem lX {N:Nat} {G:aS} {Lf:List Ent} {w:World} (s_:List aA) (i_:Int) (v:List aA) {H:Option Addr} {M:Nat} {S:Option Addr} {D:Nat}  (hc:Ctx G (.row H M (s_.map aC) 41 2::.row S D (v.map aC) 41 2::Lf) w) {O:(List aA)} (hF:bZ N s_ i_ v=some O):Calls Tryz.prog 29 #[.slice H s_.length M,i6 i_,.slice S v.length D] w (fun e w=>∃ (U:Option Addr) (V:Nat),e=.returned (.slice U O.length V)∧Ctx G (.row U V (O.map aC) 41 2::.row S D (v.map aC) 41 2::Lf) w):=by
 unfold bZ at hF
 exact aFd (ty0:=0) tR (by decide) eF (fun p n d q m vc w w' r h1 h2 h3 h4=>aG5 p n d q m vc w w' r h1 h2 h3 h4) (fun _ _ _ _=>rfl) (fun b n c i vb m vc cs vs w h1 h2 h3 h4 h5 h6 h7 h8 h9 I J B R tA tB kA kB j X g Z Y=>aEe b n c i vb m vc cs vs w h1 h2 h3 h4 h5 h6 h7 h8 h9 I J B R tA tB kA kB j X g Z Y) (fun b n c i vb m vc cs vs w h1 h2 h3 h4 h5 h6 h7 h8 h9 I J B R=>aE0 b n c i vb m vc cs vs w h1 h2 h3 h4 h5 h6 h7 h8 h9 I J B R) hc hF

def oO (N:Nat) (B:Int) (D:Int):Option (Rs (Int × Int)) :=
 some (.go (D,B))
def hC (N:Nat) (most:Int) (r:(List (Nat→Int))) (J:(List (Nat→Int))) (x:Int) (D:Int) (I:Int) (xv:Int) (B:Int):Option (Rs (Int × Int)) :=
 Option.bind (Option.bind (bG r x) fun H=>
 Option.bind (inR xv 601) fun un=>
 cond ((H xv.toNat) != 1073741824)
 (Option.bind (bG J x) fun M=>
 some (decide ((W ((H xv.toNat) + (M xv.toNat)))≤most)))
 (some false)) fun rg=>
 cond rg
 (cond (decide (I < D))
 (oO N B B)
 (oO N B D))
 (some (.go (D,I)))
def kM (N:Nat) (l:List aA) (most:Int) (r:(List (Nat→Int))) (H:(List (Nat→Int))) (out:List aA) (x:Int):Option (cY ((List aA) × Int) ((List aA) × Bool)) :=
 cond (decide (x < ((l.length:Nat):Int)))
 (Option.bind (cN N (rY (fun (zz:Int × Int) (D:(Int × Int))=>hC N most r H x zz.1 zz.2 D.1 D.2)) (.go (1,0))) fun I=>
 rsK I (fun B=>cond (decide (B.2 < B.1))
 (some (.ret (([]:List aA),false)))
 (Option.bind (pG ((out++[(⟨B.1,B.2⟩:aA)])).length) fun J=>
 some (.cont ((out++[(⟨B.1,B.2⟩:aA)]),W (x + 1))))) (fun B=>none))
 (some (.brk (out,x)))
def sP (N:Nat) (l:List aA) (most:Int):Option ((List aA) × Bool) :=
 Option.bind (jY N l) fun r=>
 Option.bind (kG N l) fun B=>
 Option.bind (bE (fun s6=>kM N l most r B s6.1 s6.2) N (([]:List aA),0)) fun x6=>
 exK x6 (fun s6=>some (s6.1,true)) some
theorem aC4 {N:Nat} {G:aS} {Lf:List Ent} {w:World} (l:List aA) (most:Int) {bf:Option Addr} {bi:Nat} (bg:Rd G 2 bf bi (l.map aC)) (hc:Ctx G (Lf) w) {a0:(List aA) × Bool} (hF:sP N l most=some a0):Calls Tryz.prog 31 #[.slice bf l.length bi,i6 most] w (fun e w=>∃ (bj:Option Addr) (bk:Nat),e=.returned (.tuple #[.slice bj a0.1.length bk,.bool a0.2])∧Ctx G (.row bj bk (a0.1.map aC) 41 2::Lf) w):=by
 unfold sP at hF
 refine aCr Tryz.func31 rfl Tryz.ntmps31 rfl fun a hf=>zS fun K h=>zB hf hc rfl fun U a w hf hc=>sp 2 hf rfl fun a hf=>zT h ?_
 refine zS fun K h=>sp 1 hf rfl fun a hf=>?_
 obtain ⟨r,hr,hF⟩:=aB hF
 refine zC hf aKt rfl (rC l bg hc hr) ?_
 rintro _ w ⟨a5,a3,rfl,hc⟩
 refine ⟨_,rfl,fun a hf=>?_⟩
 refine sp 1 hf rfl fun a hf=>?_
 obtain ⟨D,bu,hF⟩:=aB hF
 refine zC hf aKh rfl (tQ l bg hc bu) ?_
 rintro _ w ⟨a8,a6,rfl,hc⟩
 refine ⟨_,rfl,fun a hf=>?_⟩
 refine zA hf hc aJ7 rfl fun R a w hf hc=>zA hf hc aJ7 rfl fun V a w hf hc=>zW hf hc aKo u1 rfl fun w hc=>zW hf hc aKo u0 rfl fun w hc=>zT h ?_
 refine zS fun K h=>sp 1 hf rfl fun a hf=>zT h ?_
 refine wp_seq_k fun K4 h4=>zS fun K h=>sp 1 hf rfl fun a hf=>zP hf rfl (bM Tryz.underlying54 rfl) fun a hf=>sp 1 hf rfl fun a hf=>zT h ?_
 refine wp_block ?_
 obtain ⟨x6,b7,hF⟩:=aB hF
 let S6:((List aA) × Int)→Act→World→Prop:=(fun (zz:(List aA) × Int) a w=>∃ (M:Option Addr) (O:Nat) (aa:Option Addr) (u:Nat) (y:Option Addr) (z:Nat) (Ds:List Nat),Has ⟨70,lY Ds⟩ a [(3,pq U),(6,pq R),(7,pq V),(8,.slice M zz.1.length O),(18,i6 ((l.length:Nat):Int)),(19,i6 zz.2)]∧Ctx G (.row M O (zz.1.map aC) 41 2::.box V [.slice y D.length z] 72::.box R [.slice aa r.length u] 72::.row y z (D.map bA) 77 601::.row aa u (r.map bA) 77 601::.box U [i6 most] 3::(oH Ds++Lf)) w)
 have b4:∀ (zz:(List aA) × Int) a w,x6=.go zz→S6 zz a w→K4 a w:=by
  rintro ⟨out,x⟩ a w rfl ⟨M,O,aa,u,y,z,Ds,hf,hc⟩
  replace hF:=bW hF
  refine h4 _ _ ?_
  refine zS fun K h=>sp 3 hf rfl fun a hf=>zT h ?_
  refine wp_ret ?_
  obtain rfl:=sj hF
  replace hc:=((((hc.drop k5).drop k4).drop k3).drop k2).drop k1
  refine aA3 hf ?_
  refine zJ [.row M O (out.map aC) 41 2] Ds hc fun w hc=>?_
  replace hc:Ctx G (.row M O (out.map aC) 41 2::Lf) w:=hc
  exact aGa Tryz.results31 hf hc (show dG _ 4=_ from rfl) (show dG _ 5=_ from rfl) ⟨M,O,rfl,hc⟩
 have b2:∀ r,x6=.out r→r=a0:=by
  rintro r rfl
  exact sj hF
 replace hf:=aHz hf
 replace hc:Ctx G (.box V [.slice a8 D.length a6] 72::.box R [.slice a5 r.length a3] 72::.row a8 a6 (D.map bA) 77 601::.row a5 a3 (r.map bA) 77 601::.box U [i6 most] 3::(oH []++Lf)) w:=hc
 replace hc:=hc.nilRow 41 2
 refine dO N (dH (S:=S6) (x:=x6) ?_ N (([]:List aA),0) _ _ ⟨none,0,a5,a3,a8,a6,[],hf.kp rfl,hc⟩ b7)
 clear hF hf hc
 rintro ⟨out,x⟩ bm a w KB6 ⟨M,O,aa,u,y,z,Ds,hf,hc⟩ hF ab ca
 unfold kM at hF
 refine zS fun K h=>sp 1 hf rfl fun a hf=>zT h ?_
 refine wp_seq_k fun K9 h9=>zI hf rfl hF ?_ ?_ <;> clear hF <;> intro hF
 ·refine wp_skip ?_
  refine h9 _ _ ?_
  refine wp_seq_k fun K10 bz=>wp_block ?_
  refine zS fun K h=>sp 1 hf rfl fun a hf=>zA hf hc aAr rfl fun d a w hf hc=>zW hf hc eL u0 rfl fun w hc=>zT h ?_
  refine zS fun K h=>zP hf rfl (bH (cells:=[i6 1,i6 0]) iY rfl rfl) fun a hf=>zA hf hc kX rfl fun k a w hf hc=>zW hf hc cA u0 rfl fun w hc=>zT h ?_
  refine wp_seq_k fun K13 b3=>zS fun K h=>zQ (v:=.func (.func 56) #[] #[]) hf hc aDi rfl (fun w hc=>kR hc rfl) fun a w hf hc=>zT h ?_
  obtain ⟨b0,bv,hF⟩:=aB hF
  refine aBf (C:=[]) (C2:=[]) (L0:=[.box k [i6 1,i6 0] 41,.box d [i6 x] 3,.row M O (out.map aC) 41 2,.box V [.slice y D.length z] 72,.box R [.slice aa r.length u] 72,.row y z (D.map bA) 77 601,.row aa u (r.map bA) 77 601,.box U [i6 most] 3]) (Lf:=(oH Ds++Lf)) (encs:=fun x:(Int × Int)=>[i6 x.1,i6 x.2]) (fun (zz:Int × Int) L=>∃ (m:Option Addr) (H:Nat) (Y:Option Addr) (I:Nat),L=[.box k [i6 zz.1,i6 zz.2] 41,.box d [i6 x] 3,.row M O (out.map aC) 41 2,.box V [.slice Y D.length I] 72,.box R [.slice m r.length H] 72,.row Y I (D.map bA) 77 601,.row m H (r.map bA) 77 601,.box U [i6 most] 3]) (fun (zz:Int × Int) (bd:(Int × Int))=>hC N most r D x zz.1 zz.2 bd.1 bd.2) (1,0) b0 hf hc rfl aDd (fun _=>rfl) rfl ⟨aa,u,y,z,rfl⟩ ?_ ?_ ?_ ?_
  ·intro lq mq J L Lx w hy hJ hc
   exact iZ  J _ hy _ hJ hc bv
  ·clear hF hf hc
   rintro lq mq ⟨X,Z⟩ ⟨xv,n⟩ oq _ Lr Lb a w cb ⟨m,H,Y,I,rfl⟩ hF hf hc hK
   replace hf:Has 70 a [(3,pq U),(6,pq R),(7,pq V),(8,.slice M out.length O),(9,pq d),(10,pq k),(18,i6 ((l.length:Nat):Int)),(19,i6 x),(24,i6 xv),(25,i6 n)]:=hf.kp rfl
   replace hc:Ctx G (.box k [i6 X,i6 Z] 41::.box d [i6 x] 3::.row M O (out.map aC) 41 2::.box V [.slice Y D.length I] 72::.box R [.slice m r.length H] 72::.row Y I (D.map bA) 77 601::.row m H (r.map bA) 77 601::.box U [i6 most] 3::Lr) w:=hc
   replace hF:hC N most r D x X Z xv n=some oq:=hF
   unfold hC at hF
   refine sX fun K16 b9=>oE (fun _ _ h=>h) rfl ?_
   refine sp 1 hf rfl fun a hf=>aP ?_
   refine b9 _ _ ?_
   refine oE (fun _ _ h=>h) rfl ?_
   refine sp 1 hf rfl fun a hf=>aP ?_
   refine hK _ _ [.box k [i6 X,i6 Z] 41,.box d [i6 x] 3,.row M O (out.map aC) 41 2,.box V [.slice Y D.length I] 72,.box R [.slice m r.length H] 72,.row Y I (D.map bA) 77 601,.row m H (r.map bA) 77 601,.box U [i6 most] 3] hc fun w hc=>?_
   replace hc:Ctx G (.box k [i6 X,i6 Z] 41::.box d [i6 x] 3::.row M O (out.map aC) 41 2::.box V [.slice Y D.length I] 72::.box R [.slice m r.length H] 72::.row Y I (D.map bA) 77 601::.row m H (r.map bA) 77 601::.box U [i6 most] 3::Lb) w:=hc
   refine wR fun K17 bb=>wE ?_
   refine sX fun K18 b1=>?_
   obtain ⟨rg,bc,hF⟩:=aB hF
   refine rCut (fun a w=>∃ (ai:Option Addr) (am:Nat) (ax:Option Addr) (aj:Nat),Has 70 a [(3,pq U),(6,pq R),(7,pq V),(8,.slice M out.length O),(9,pq d),(10,pq k),(12,i6 n),(18,i6 ((l.length:Nat):Int)),(19,i6 x),(49,.bool rg)]∧Ctx G (.box k [i6 X,i6 Z] 41::.box d [i6 x] 3::.row M O (out.map aC) 41 2::.box V [.slice ai D.length am] 72::.box R [.slice ax r.length aj] 72::.row ai am (D.map bA) 77 601::.row ax aj (r.map bA) 77 601::.box U [i6 most] 3::Lb) w) ?_ ?_
   ·clear hF
    have hF:=bc
    clear bc
    obtain ⟨q,bq,hF⟩:=aB hF
    obtain ⟨g,rfl,qa,qr⟩:=gH hc m6 bq
    obtain ⟨un,p,hF⟩:=aB hF
    cases hb:((q xv.toNat) != 1073741824)
    ·replace hF:=nJ hb hF
     try rw [hb] at hf
     try rw [hb] at hc
     have a4:=hb
     clear hb
     refine aAj (fun _ _ h=>h) rfl (fun θ=>(⟨none,none,3,pq U⟩::⟨none,none,6,pq R⟩::⟨none,none,7,pq V⟩::⟨none,none,8,.slice M out.length O⟩::⟨none,none,9,pq d⟩::⟨none,none,10,pq k⟩::⟨none,none,11,i6 xv⟩::⟨none,none,12,i6 n⟩::⟨none,none,18,i6 ((l.length:Nat):Int)⟩::⟨none,none,19,i6 x⟩::⟨some 0,none,26,.slice (some ⟨g,0,none⟩) r.length H⟩::⟨some 1,none,27,i6 x⟩::⟨some 2,none,28,i6 xv⟩::⟨some 3,none,29,.pointer (some ⟨g,x.toNat * 601,none⟩)⟩::⟨some 4,none,30,.pointer (some ⟨g,x.toNat * 601 + xv.toNat * 1,none⟩)⟩::⟨some 5,none,31,i6 (q xv.toNat)⟩::⟨some 6,none,32,.bool false⟩::⟨some 7,none,33,.bool false⟩::⟨some 8,none,34,undef⟩::⟨some 9,none,35,undef⟩::⟨some 10,none,36,undef⟩::⟨some 11,none,37,undef⟩::⟨some 12,none,38,undef⟩::⟨some 13,none,39,undef⟩::⟨some 14,none,40,undef⟩::⟨some 15,none,41,undef⟩::⟨some 16,none,42,undef⟩::⟨some 17,none,43,undef⟩::⟨some 18,none,44,undef⟩::⟨some 19,none,45,undef⟩::⟨some 20,none,46,undef⟩::⟨some 21,none,47,undef⟩::⟨some 22,none,48,undef⟩::⟨some 23,none,49,.bool false⟩::[])) (fun E θ=>.box k [i6 X,i6 Z] 41::.box d [i6 x] 3::.row M O (out.map aC) 41 2::.box V [.slice Y D.length I] 72::.box R [.slice (some ⟨g,0,none⟩) r.length H] 72::.row Y I (D.map bA) 77 601::.row (some ⟨g,0,none⟩) H (r.map bA) 77 601::.box U [i6 most] 3::Lb) [] (fun a w=>Has 70 a [(3,pq U),(6,pq R),(7,pq V),(8,.slice M out.length O),(9,pq d),(10,pq k),(12,i6 n),(18,i6 ((l.length:Nat):Int)),(19,i6 x),(34,undef),(35,undef),(36,undef),(37,undef),(38,undef),(39,undef),(40,undef),(41,undef),(42,undef),(43,undef),(44,undef),(45,undef),(46,undef),(47,undef),(48,undef),(49,.bool false)]∧Ctx G (.box k [i6 X,i6 Z] 41::.box d [i6 x] 3::.row M O (out.map aC) 41 2::.box V [.slice Y D.length I] 72::.box R [.slice (some ⟨g,0,none⟩) r.length H] 72::.row Y I (D.map bA) 77 601::.row (some ⟨g,0,none⟩) H (r.map bA) 77 601::.box U [i6 most] 3::Lb) w) aT (by kernel_rfl) (by kernel_rfl) (eZ.of hf ⟨rfl,rfl,rfl,rfl,rfl,rfl,rfl,rfl,rfl,rfl,trivial,trivial,trivial,trivial,trivial,trivial,trivial,trivial,trivial,trivial,trivial,trivial,trivial,trivial,trivial,trivial,trivial,trivial,trivial,trivial,trivial,trivial,trivial,trivial,trivial⟩) hc ⟨?_,?_,?_,?_,?_,?_,?_,?_,?_,?_,?_,?_,?_,?_,?_,?_,?_,?_,?_,?_,?_,?_,?_,?_,trivial⟩ ?_ ?_
     ·intro E θ a w hD hi hp he hc
      have hf:=he.h0.mT he 1 rfl
      refine zL hf hc aFn m4 rfl fun a w hf hc=>zD θ he hi hf 10 rfl rfl rfl hc
     ·intro E θ a w hD hi hp he hc
      have hf:=he.h0.mT he 4 rfl
      refine zL hf hc aU m1 rfl fun a w hf hc=>zD θ he hi hf 11 rfl rfl rfl hc
     ·intro E θ a w hD hi hp he hc
      have hf:=he.h0.mT he 6 rfl
      refine sp 1 hf rfl fun a hf=>zD θ he hi hf 12 rfl rfl rfl hc
     ·intro E θ a w hD hi hp he hc
      have e0:=hp.o 0 rfl
      have e1:=hp.o 1 rfl
      have hf:=(he.h0.mP he 10 rfl e0).mP he 11 rfl e1
      refine zP hf rfl (pIA Tryz.underlying72 rE rfl rfl qa) fun a hf=>zD θ he hi hf 13 rfl rfl rfl hc
     ·intro E θ a w hD hi hp he hc
      have e2:=hp.o 2 rfl
      have e3:=hp.o 3 rfl
      have hf:=(he.h0.mP he 12 rfl e2).mP he 13 rfl e3
      refine zP hf rfl (pW Tryz.underlying77 eL rfl rfl (bI p).1 (bI p).2) fun a hf=>zD θ he hi hf 14 rfl rfl rfl hc
     ·intro E θ a w hD hi hp he hc
      have e4:=hp.o 4 rfl
      have hf:=he.h0.mP he 14 rfl e4
      refine zE hf hc rfl (cE aU rfl (dA (sz:=601) (i:=x.toNat) (j:=xv.toNat * 1 + 0) m6 qr (vG (fun x=>(bD x).1) p rfl))) fun a w hf hc=>zD θ he hi hf 15 rfl rfl rfl hc
     ·intro E θ a w hD hi hp he hc
      have e5:=hp.o 5 rfl
      have hf:=he.h0.mP he 15 rfl e5
      refine sp 1 hf rfl fun a hf=>?_
      rw [a4] at hf
      exact zD θ he hi hf 16 rfl rfl rfl hc
     ·intro E θ a w hD hi hp he hc
      have e6:=hp.o 6 rfl
      have hf:=he.h0.mP he 16 rfl e6
      refine sp 1 hf rfl fun a hf=>zD θ he hi hf 17 rfl rfl rfl hc
     ·intro E θ a w hD hi hp he hc
      have e7:=hp.o 7 rfl
      have hf:=(he.h0.mT he 1 rfl).mP he 17 rfl e7
      refine stS hf rfl rfl rfl fun a hf=>zD θ he hi hf 18 rfl rfl rfl hc
     ·intro E θ a w hD hi hp he hc
      have e7:=hp.o 7 rfl
      have hf:=(he.h0.mT he 4 rfl).mP he 17 rfl e7
      refine stS hf rfl rfl rfl fun a hf=>zD θ he hi hf 19 rfl rfl rfl hc
     ·intro E θ a w hD hi hp he hc
      have e7:=hp.o 7 rfl
      have hf:=(he.h0.mT he 6 rfl).mP he 17 rfl e7
      refine stS hf rfl rfl rfl fun a hf=>zD θ he hi hf 20 rfl rfl rfl hc
     ·intro E θ a w hD hi hp he hc
      have e7:=hp.o 7 rfl
      have e8:=hp.o 8 rfl
      have e9:=hp.o 9 rfl
      have hf:=((he.h0.mP he 17 rfl e7).mP he 18 rfl e8).mP he 19 rfl e9
      refine stS hf rfl rfl rfl fun a hf=>zD θ he hi hf 21 rfl rfl rfl hc
     ·intro E θ a w hD hi hp he hc
      have e7:=hp.o 7 rfl
      have ac:=hp.o 10 rfl
      have ak:=hp.o 11 rfl
      have hf:=((he.h0.mP he 17 rfl e7).mP he 20 rfl ac).mP he 21 rfl ak
      refine stS hf rfl rfl rfl fun a hf=>zD θ he hi hf 22 rfl rfl rfl hc
     ·intro E θ a w hD hi hp he hc
      have e7:=hp.o 7 rfl
      have ag:=hp.o 12 rfl
      have hf:=(he.h0.mP he 17 rfl e7).mP he 22 rfl ag
      refine stS hf rfl rfl rfl fun a hf=>zD θ he hi hf 23 rfl rfl rfl hc
     ·intro E θ a w hD hi hp he hc
      have e7:=hp.o 7 rfl
      have hf:=(he.h0.mT he 2 rfl).mP he 17 rfl e7
      refine stS hf rfl rfl rfl fun a hf=>zD θ he hi hf 24 rfl rfl rfl hc
     ·intro E θ a w hD hi hp he hc
      have e7:=hp.o 7 rfl
      have hf:=(he.h0.mT he 4 rfl).mP he 17 rfl e7
      refine stS hf rfl rfl rfl fun a hf=>zD θ he hi hf 25 rfl rfl rfl hc
     ·intro E θ a w hD hi hp he hc
      have e7:=hp.o 7 rfl
      have hf:=(he.h0.mT he 6 rfl).mP he 17 rfl e7
      refine stS hf rfl rfl rfl fun a hf=>zD θ he hi hf 26 rfl rfl rfl hc
     ·intro E θ a w hD hi hp he hc
      have e7:=hp.o 7 rfl
      have ad:=hp.o 14 rfl
      have an:=hp.o 15 rfl
      have hf:=((he.h0.mP he 17 rfl e7).mP he 24 rfl ad).mP he 25 rfl an
      refine stS hf rfl rfl rfl fun a hf=>zD θ he hi hf 27 rfl rfl rfl hc
     ·intro E θ a w hD hi hp he hc
      have e7:=hp.o 7 rfl
      have au:=hp.o 16 rfl
      have az:=hp.o 17 rfl
      have hf:=((he.h0.mP he 17 rfl e7).mP he 26 rfl au).mP he 27 rfl az
      refine stS hf rfl rfl rfl fun a hf=>zD θ he hi hf 28 rfl rfl rfl hc
     ·intro E θ a w hD hi hp he hc
      have e7:=hp.o 7 rfl
      have ap:=hp.o 18 rfl
      have hf:=(he.h0.mP he 17 rfl e7).mP he 28 rfl ap
      refine stS hf rfl rfl rfl fun a hf=>zD θ he hi hf 29 rfl rfl rfl hc
     ·intro E θ a w hD hi hp he hc
      have e7:=hp.o 7 rfl
      have aq:=hp.o 13 rfl
      have ar:=hp.o 19 rfl
      have hf:=((he.h0.mP he 17 rfl e7).mP he 23 rfl aq).mP he 29 rfl ar
      refine stS hf rfl rfl rfl fun a hf=>zD θ he hi hf 30 rfl rfl rfl hc
     ·intro E θ a w hD hi hp he hc
      have e7:=hp.o 7 rfl
      have hf:=(he.h0.mT he 0 rfl).mP he 17 rfl e7
      refine stS hf rfl rfl rfl fun a hf=>zD θ he hi hf 31 rfl rfl rfl hc
     ·intro E θ a w hD hi hp he hc
      have e7:=hp.o 7 rfl
      have ay:=hp.o 20 rfl
      have av:=hp.o 21 rfl
      have hf:=((he.h0.mP he 17 rfl e7).mP he 30 rfl ay).mP he 31 rfl av
      refine stS hf rfl rfl rfl fun a hf=>zD θ he hi hf 32 rfl rfl rfl hc
     ·intro E θ a w hD hi hp he hc
      have e7:=hp.o 7 rfl
      have af:=hp.o 22 rfl
      have hf:=(he.h0.mP he 17 rfl e7).mP he 32 rfl af
      refine sp 1 hf rfl fun a hf=>zD θ he hi hf 33 rfl rfl rfl hc
     ·intro E θ a w B he hc
      have hf:=he.h0
      have e8:=B 8 rfl
      have e9:=B 9 rfl
      have ac:=B 10 rfl
      have ak:=B 11 rfl
      have ag:=B 12 rfl
      have aq:=B 13 rfl
      have ad:=B 14 rfl
      have an:=B 15 rfl
      have au:=B 16 rfl
      have az:=B 17 rfl
      have ap:=B 18 rfl
      have ar:=B 19 rfl
      have ay:=B 20 rfl
      have av:=B 21 rfl
      have af:=B 22 rfl
      have a7:=B 23 rfl
      replace hf:=hf.more he 33 rfl (onP a7)
      replace hf:=hf.more he 32 rfl (onP af)
      replace hf:=hf.more he 31 rfl (onP av)
      replace hf:=hf.more he 30 rfl (onP ay)
      replace hf:=hf.more he 29 rfl (onP ar)
      replace hf:=hf.more he 28 rfl (onP ap)
      replace hf:=hf.more he 27 rfl (onP az)
      replace hf:=hf.more he 26 rfl (onP au)
      replace hf:=hf.more he 25 rfl (onP an)
      replace hf:=hf.more he 24 rfl (onP ad)
      replace hf:=hf.more he 23 rfl (onP aq)
      replace hf:=hf.more he 22 rfl (onP ag)
      replace hf:=hf.more he 21 rfl (onP ak)
      replace hf:=hf.more he 20 rfl (onP ac)
      replace hf:=hf.more he 19 rfl (onP e9)
      replace hf:=hf.more he 18 rfl (onP e8)
      replace hf:=hf.more he 9 rfl (onT)
      replace hf:=hf.more he 8 rfl (onT)
      replace hf:=hf.more he 7 rfl (onT)
      replace hf:=hf.more he 5 rfl (onT)
      replace hf:=hf.more he 4 rfl (onT)
      replace hf:=hf.more he 3 rfl (onT)
      replace hf:=hf.more he 2 rfl (onT)
      replace hf:=hf.more he 1 rfl (onT)
      replace hf:=hf.more he 0 rfl (onT)
      exact ⟨hf.kp rfl,hc⟩
     rintro a w ⟨hf,hc⟩
     refine eY ?_
     obtain rfl:=sj hF
     exact ⟨Y,I,(some ⟨g,0,none⟩),H,hf.kp rfl,hc⟩
    ·replace hF:=lF hb hF
     try rw [hb] at hf
     try rw [hb] at hc
     have a4:=hb
     clear hb
     obtain ⟨t,bs,hF⟩:=aB hF
     obtain ⟨s,rfl,bt,bx⟩:=gH hc m5 bs
     refine aAj (fun _ _ h=>h) rfl (fun θ=>(⟨none,none,3,pq U⟩::⟨none,none,6,pq R⟩::⟨none,none,7,pq V⟩::⟨none,none,8,.slice M out.length O⟩::⟨none,none,9,pq d⟩::⟨none,none,10,pq k⟩::⟨none,none,11,i6 xv⟩::⟨none,none,12,i6 n⟩::⟨none,none,18,i6 ((l.length:Nat):Int)⟩::⟨none,none,19,i6 x⟩::⟨some 0,none,26,.slice (some ⟨g,0,none⟩) r.length H⟩::⟨some 1,none,27,i6 x⟩::⟨some 2,none,28,i6 xv⟩::⟨some 3,none,29,.pointer (some ⟨g,x.toNat * 601,none⟩)⟩::⟨some 4,none,30,.pointer (some ⟨g,x.toNat * 601 + xv.toNat * 1,none⟩)⟩::⟨some 5,none,31,i6 (q xv.toNat)⟩::⟨some 6,none,32,.bool true⟩::⟨some 7,none,33,.bool true⟩::⟨some 8,none,34,.slice (some ⟨g,0,none⟩) r.length H⟩::⟨some 9,none,35,i6 x⟩::⟨some 10,none,36,i6 xv⟩::⟨some 11,none,37,.pointer (some ⟨g,x.toNat * 601,none⟩)⟩::⟨some 12,none,38,.pointer (some ⟨g,x.toNat * 601 + xv.toNat * 1,none⟩)⟩::⟨some 13,none,39,i6 (q xv.toNat)⟩::⟨some 14,none,40,.slice (some ⟨s,0,none⟩) D.length I⟩::⟨some 15,none,41,i6 x⟩::⟨some 16,none,42,i6 xv⟩::⟨some 17,none,43,.pointer (some ⟨s,x.toNat * 601,none⟩)⟩::⟨some 18,none,44,.pointer (some ⟨s,x.toNat * 601 + xv.toNat * 1,none⟩)⟩::⟨some 19,none,45,i6 (t xv.toNat)⟩::⟨some 20,none,46,i6 (W ((q xv.toNat) + (t xv.toNat)))⟩::⟨some 21,none,47,i6 most⟩::⟨some 22,none,48,.bool (decide ((W ((q xv.toNat) + (t xv.toNat)))≤most))⟩::⟨some 23,none,49,.bool (decide ((W ((q xv.toNat) + (t xv.toNat)))≤most))⟩::[])) (fun E θ=>.box k [i6 X,i6 Z] 41::.box d [i6 x] 3::.row M O (out.map aC) 41 2::.box V [.slice (some ⟨s,0,none⟩) D.length I] 72::.box R [.slice (some ⟨g,0,none⟩) r.length H] 72::.row (some ⟨s,0,none⟩) I (D.map bA) 77 601::.row (some ⟨g,0,none⟩) H (r.map bA) 77 601::.box U [i6 most] 3::Lb) [] (fun a w=>Has 70 a [(3,pq U),(6,pq R),(7,pq V),(8,.slice M out.length O),(9,pq d),(10,pq k),(12,i6 n),(18,i6 ((l.length:Nat):Int)),(19,i6 x),(34,.slice (some ⟨g,0,none⟩) r.length H),(35,i6 x),(36,i6 xv),(37,.pointer (some ⟨g,x.toNat * 601,none⟩)),(38,.pointer (some ⟨g,x.toNat * 601 + xv.toNat * 1,none⟩)),(39,i6 (q xv.toNat)),(40,.slice (some ⟨s,0,none⟩) D.length I),(41,i6 x),(42,i6 xv),(43,.pointer (some ⟨s,x.toNat * 601,none⟩)),(44,.pointer (some ⟨s,x.toNat * 601 + xv.toNat * 1,none⟩)),(45,i6 (t xv.toNat)),(46,i6 (W ((q xv.toNat) + (t xv.toNat)))),(47,i6 most),(48,.bool (decide ((W ((q xv.toNat) + (t xv.toNat)))≤most))),(49,.bool (decide ((W ((q xv.toNat) + (t xv.toNat)))≤most)))]∧Ctx G (.box k [i6 X,i6 Z] 41::.box d [i6 x] 3::.row M O (out.map aC) 41 2::.box V [.slice (some ⟨s,0,none⟩) D.length I] 72::.box R [.slice (some ⟨g,0,none⟩) r.length H] 72::.row (some ⟨s,0,none⟩) I (D.map bA) 77 601::.row (some ⟨g,0,none⟩) H (r.map bA) 77 601::.box U [i6 most] 3::Lb) w) aT (by kernel_rfl) (by kernel_rfl) (eZ.of hf ⟨rfl,rfl,rfl,rfl,rfl,rfl,rfl,rfl,rfl,rfl,trivial,trivial,trivial,trivial,trivial,trivial,trivial,trivial,trivial,trivial,trivial,trivial,trivial,trivial,trivial,trivial,trivial,trivial,trivial,trivial,trivial,trivial,trivial,trivial,trivial⟩) hc ⟨?_,?_,?_,?_,?_,?_,?_,?_,?_,?_,?_,?_,?_,?_,?_,?_,?_,?_,?_,?_,?_,?_,?_,?_,trivial⟩ ?_ ?_
     ·intro E θ a w hD hi hp he hc
      have hf:=he.h0.mT he 1 rfl
      refine zL hf hc aFn m4 rfl fun a w hf hc=>zD θ he hi hf 10 rfl rfl rfl hc
     ·intro E θ a w hD hi hp he hc
      have hf:=he.h0.mT he 4 rfl
      refine zL hf hc aU m1 rfl fun a w hf hc=>zD θ he hi hf 11 rfl rfl rfl hc
     ·intro E θ a w hD hi hp he hc
      have hf:=he.h0.mT he 6 rfl
      refine sp 1 hf rfl fun a hf=>zD θ he hi hf 12 rfl rfl rfl hc
     ·intro E θ a w hD hi hp he hc
      have e0:=hp.o 0 rfl
      have e1:=hp.o 1 rfl
      have hf:=(he.h0.mP he 10 rfl e0).mP he 11 rfl e1
      refine zP hf rfl (pIA Tryz.underlying72 rE rfl rfl qa) fun a hf=>zD θ he hi hf 13 rfl rfl rfl hc
     ·intro E θ a w hD hi hp he hc
      have e2:=hp.o 2 rfl
      have e3:=hp.o 3 rfl
      have hf:=(he.h0.mP he 12 rfl e2).mP he 13 rfl e3
      refine zP hf rfl (pW Tryz.underlying77 eL rfl rfl (bI p).1 (bI p).2) fun a hf=>zD θ he hi hf 14 rfl rfl rfl hc
     ·intro E θ a w hD hi hp he hc
      have e4:=hp.o 4 rfl
      have hf:=he.h0.mP he 14 rfl e4
      refine zE hf hc rfl (cE aU rfl (dA (sz:=601) (i:=x.toNat) (j:=xv.toNat * 1 + 0) m6 qr (vG (fun x=>(bD x).1) p rfl))) fun a w hf hc=>zD θ he hi hf 15 rfl rfl rfl hc
     ·intro E θ a w hD hi hp he hc
      have e5:=hp.o 5 rfl
      have hf:=he.h0.mP he 15 rfl e5
      refine sp 1 hf rfl fun a hf=>?_
      rw [a4] at hf
      exact zD θ he hi hf 16 rfl rfl rfl hc
     ·intro E θ a w hD hi hp he hc
      have e6:=hp.o 6 rfl
      have hf:=he.h0.mP he 16 rfl e6
      refine sp 1 hf rfl fun a hf=>zD θ he hi hf 17 rfl rfl rfl hc
     ·intro E θ a w hD hi hp he hc
      have e7:=hp.o 7 rfl
      have hf:=(he.h0.mT he 1 rfl).mP he 17 rfl e7
      refine zL hf hc aFn m4 rfl fun a w hf hc=>zD θ he hi hf 18 rfl rfl rfl hc
     ·intro E θ a w hD hi hp he hc
      have e7:=hp.o 7 rfl
      have hf:=(he.h0.mT he 4 rfl).mP he 17 rfl e7
      refine zL hf hc aU m1 rfl fun a w hf hc=>zD θ he hi hf 19 rfl rfl rfl hc
     ·intro E θ a w hD hi hp he hc
      have e7:=hp.o 7 rfl
      have hf:=(he.h0.mT he 6 rfl).mP he 17 rfl e7
      refine sp 1 hf rfl fun a hf=>zD θ he hi hf 20 rfl rfl rfl hc
     ·intro E θ a w hD hi hp he hc
      have e7:=hp.o 7 rfl
      have e8:=hp.o 8 rfl
      have e9:=hp.o 9 rfl
      have hf:=((he.h0.mP he 17 rfl e7).mP he 18 rfl e8).mP he 19 rfl e9
      refine zP hf rfl (pIA Tryz.underlying72 rE rfl rfl qa) fun a hf=>zD θ he hi hf 21 rfl rfl rfl hc
     ·intro E θ a w hD hi hp he hc
      have e7:=hp.o 7 rfl
      have ac:=hp.o 10 rfl
      have ak:=hp.o 11 rfl
      have hf:=((he.h0.mP he 17 rfl e7).mP he 20 rfl ac).mP he 21 rfl ak
      refine zP hf rfl (pW Tryz.underlying77 eL rfl rfl (bI p).1 (bI p).2) fun a hf=>zD θ he hi hf 22 rfl rfl rfl hc
     ·intro E θ a w hD hi hp he hc
      have e7:=hp.o 7 rfl
      have ag:=hp.o 12 rfl
      have hf:=(he.h0.mP he 17 rfl e7).mP he 22 rfl ag
      refine zE hf hc rfl (cE aU rfl (dA (sz:=601) (i:=x.toNat) (j:=xv.toNat * 1 + 0) m6 qr (vG (fun x=>(bD x).1) p rfl))) fun a w hf hc=>zD θ he hi hf 23 rfl rfl rfl hc
     ·intro E θ a w hD hi hp he hc
      have e7:=hp.o 7 rfl
      have hf:=(he.h0.mT he 2 rfl).mP he 17 rfl e7
      refine zL hf hc aFn m3 rfl fun a w hf hc=>zD θ he hi hf 24 rfl rfl rfl hc
     ·intro E θ a w hD hi hp he hc
      have e7:=hp.o 7 rfl
      have hf:=(he.h0.mT he 4 rfl).mP he 17 rfl e7
      refine zL hf hc aU m1 rfl fun a w hf hc=>zD θ he hi hf 25 rfl rfl rfl hc
     ·intro E θ a w hD hi hp he hc
      have e7:=hp.o 7 rfl
      have hf:=(he.h0.mT he 6 rfl).mP he 17 rfl e7
      refine sp 1 hf rfl fun a hf=>zD θ he hi hf 26 rfl rfl rfl hc
     ·intro E θ a w hD hi hp he hc
      have e7:=hp.o 7 rfl
      have ad:=hp.o 14 rfl
      have an:=hp.o 15 rfl
      have hf:=((he.h0.mP he 17 rfl e7).mP he 24 rfl ad).mP he 25 rfl an
      refine zP hf rfl (pIA Tryz.underlying72 rE rfl rfl bt) fun a hf=>zD θ he hi hf 27 rfl rfl rfl hc
     ·intro E θ a w hD hi hp he hc
      have e7:=hp.o 7 rfl
      have au:=hp.o 16 rfl
      have az:=hp.o 17 rfl
      have hf:=((he.h0.mP he 17 rfl e7).mP he 26 rfl au).mP he 27 rfl az
      refine zP hf rfl (pW Tryz.underlying77 eL rfl rfl (bI p).1 (bI p).2) fun a hf=>zD θ he hi hf 28 rfl rfl rfl hc
     ·intro E θ a w hD hi hp he hc
      have e7:=hp.o 7 rfl
      have ap:=hp.o 18 rfl
      have hf:=(he.h0.mP he 17 rfl e7).mP he 28 rfl ap
      refine zE hf hc rfl (cE aU rfl (dA (sz:=601) (i:=x.toNat) (j:=xv.toNat * 1 + 0) m5 bx (vG (fun x=>(bD x).1) p rfl))) fun a w hf hc=>zD θ he hi hf 29 rfl rfl rfl hc
     ·intro E θ a w hD hi hp he hc
      have e7:=hp.o 7 rfl
      have aq:=hp.o 13 rfl
      have ar:=hp.o 19 rfl
      have hf:=((he.h0.mP he 17 rfl e7).mP he 23 rfl aq).mP he 29 rfl ar
      refine sp 1 hf rfl fun a hf=>zD θ he hi hf 30 rfl rfl rfl hc
     ·intro E θ a w hD hi hp he hc
      have e7:=hp.o 7 rfl
      have hf:=(he.h0.mT he 0 rfl).mP he 17 rfl e7
      refine zL hf hc aU m7 rfl fun a w hf hc=>zD θ he hi hf 31 rfl rfl rfl hc
     ·intro E θ a w hD hi hp he hc
      have e7:=hp.o 7 rfl
      have ay:=hp.o 20 rfl
      have av:=hp.o 21 rfl
      have hf:=((he.h0.mP he 17 rfl e7).mP he 30 rfl ay).mP he 31 rfl av
      refine sp 1 hf rfl fun a hf=>zD θ he hi hf 32 rfl rfl rfl hc
     ·intro E θ a w hD hi hp he hc
      have e7:=hp.o 7 rfl
      have af:=hp.o 22 rfl
      have hf:=(he.h0.mP he 17 rfl e7).mP he 32 rfl af
      refine sp 1 hf rfl fun a hf=>zD θ he hi hf 33 rfl rfl rfl hc
     ·intro E θ a w B he hc
      have hf:=he.h0
      have e8:=B 8 rfl
      have e9:=B 9 rfl
      have ac:=B 10 rfl
      have ak:=B 11 rfl
      have ag:=B 12 rfl
      have aq:=B 13 rfl
      have ad:=B 14 rfl
      have an:=B 15 rfl
      have au:=B 16 rfl
      have az:=B 17 rfl
      have ap:=B 18 rfl
      have ar:=B 19 rfl
      have ay:=B 20 rfl
      have av:=B 21 rfl
      have af:=B 22 rfl
      have a7:=B 23 rfl
      replace hf:=hf.more he 33 rfl (onP a7)
      replace hf:=hf.more he 32 rfl (onP af)
      replace hf:=hf.more he 31 rfl (onP av)
      replace hf:=hf.more he 30 rfl (onP ay)
      replace hf:=hf.more he 29 rfl (onP ar)
      replace hf:=hf.more he 28 rfl (onP ap)
      replace hf:=hf.more he 27 rfl (onP az)
      replace hf:=hf.more he 26 rfl (onP au)
      replace hf:=hf.more he 25 rfl (onP an)
      replace hf:=hf.more he 24 rfl (onP ad)
      replace hf:=hf.more he 23 rfl (onP aq)
      replace hf:=hf.more he 22 rfl (onP ag)
      replace hf:=hf.more he 21 rfl (onP ak)
      replace hf:=hf.more he 20 rfl (onP ac)
      replace hf:=hf.more he 19 rfl (onP e9)
      replace hf:=hf.more he 18 rfl (onP e8)
      replace hf:=hf.more he 9 rfl (onT)
      replace hf:=hf.more he 8 rfl (onT)
      replace hf:=hf.more he 7 rfl (onT)
      replace hf:=hf.more he 5 rfl (onT)
      replace hf:=hf.more he 4 rfl (onT)
      replace hf:=hf.more he 3 rfl (onT)
      replace hf:=hf.more he 2 rfl (onT)
      replace hf:=hf.more he 1 rfl (onT)
      replace hf:=hf.more he 0 rfl (onT)
      exact ⟨hf.kp rfl,hc⟩
     rintro a w ⟨hf,hc⟩
     refine eY ?_
     obtain rfl:=sj hF
     exact ⟨(some ⟨s,0,none⟩),I,(some ⟨g,0,none⟩),H,hf.kp rfl,hc⟩
   rintro a w ⟨ai,am,ax,aj,hf,hc⟩
   refine b1 _ _ ?_
   refine yY (b:=rg) hf rfl (fun hb=>?_) (fun hb=>?_)
   ·replace hF:=lF hb hF
    clear hb
    refine sX fun K19 b5=>?_
    have a9:∀ (a1:Int) a w,Has 70 a [(3,pq U),(6,pq R),(7,pq V),(8,.slice M out.length O),(9,pq d),(10,pq k),(12,i6 n),(18,i6 ((l.length:Nat):Int)),(19,i6 x)]→Ctx G (.box k [i6 a1,i6 Z] 41::.box d [i6 x] 3::.row M O (out.map aC) 41 2::.box V [.slice ai D.length am] 72::.box R [.slice ax r.length aj] 72::.row ai am (D.map bA) 77 601::.row ax aj (r.map bA) 77 601::.box U [i6 most] 3::Lb) w→oO N n a1=some oq→K19 a w:=by
     repeat (clear hF)
     repeat (clear hc)
     repeat (clear hf)
     intro a1 a w hf hc hF
     unfold oO at hF
     refine b5 _ _ ?_
     refine oE (fun _ _ h=>h) rfl ?_
     refine sp 1 hf rfl fun a hf=>zP hf rfl (pFA dC rfl) fun a hf=>zW hf hc eL u0 rfl fun w hc=>aP ?_
     refine bb _ _ ?_
     exact ⟨(a1,n),_,(sj hF).symm,⟨ax,aj,ai,am,rfl⟩,hc⟩
    refine sX fun K20 b6=>oE (fun _ _ h=>h) rfl ?_
    refine zP hf rfl (pFA dS rfl) fun a hf=>zL hf hc aU m0 rfl fun a w hf hc=>zP hf rfl (pFA dC rfl) fun a hf=>zL hf hc aU m0 rfl fun a w hf hc=>sp 1 hf rfl fun a hf=>aP ?_
    refine b6 _ _ ?_
    refine yY (b:=(decide (Z < X))) hf rfl (fun hb=>?_) (fun hb=>?_)
    ·replace hF:=lF hb hF
     clear hb
     refine oE (fun _ _ h=>h) rfl ?_
     refine sp 1 hf rfl fun a hf=>zP hf rfl (pFA dS rfl) fun a hf=>zW hf hc eL u0 rfl fun w hc=>aP ?_
     exact a9 n _ _  (hf.kp rfl) hc hF
    ·replace hF:=nJ hb hF
     clear hb
     refine zM ?_
     exact a9 X _ _  (hf.kp rfl) hc hF
   ·replace hF:=nJ hb hF
    clear hb
    refine zM ?_
    refine bb _ _ ?_
    exact ⟨(X,Z),_,(sj hF).symm,⟨ax,aj,ai,am,rfl⟩,hc⟩
  ·rintro D_1 ⟨X,Z⟩ _ a w a2 ⟨m,H,Y,I,rfl⟩ hf hc
   replace hf:Has ⟨70,lY (D_1::Ds)⟩ a [(3,pq U),(6,pq R),(7,pq V),(8,.slice M out.length O),(9,pq d),(10,pq k),(18,i6 ((l.length:Nat):Int)),(19,i6 x)]:=hf.kp rfl
   replace hc:Ctx G (.box k [i6 X,i6 Z] 41::.box d [i6 x] 3::.row M O (out.map aC) 41 2::.box V [.slice Y D.length I] 72::.box R [.slice m r.length H] 72::.row Y I (D.map bA) 77 601::.row m H (r.map bA) 77 601::.box U [i6 most] 3::(oH (D_1::Ds)++Lf)) w:=nL (C:=[]) (L:=[.box k [i6 X,i6 Z] 41,.box d [i6 x] 3,.row M O (out.map aC) 41 2,.box V [.slice Y D.length I] 72,.box R [.slice m r.length H] 72,.row Y I (D.map bA) 77 601,.row m H (r.map bA) 77 601,.box U [i6 most] 3]) hc
   replace hF:(cond (decide (Z < X)) (some (.ret (([]:List aA),false))) (Option.bind (pG ((out++[(⟨X,Z⟩:aA)])).length) fun br=>some (.cont ((out++[(⟨X,Z⟩:aA)]),W (x + 1)))))=some bm:=by rcases a2 with rfl | rfl <;> exact hF
   refine b3 _ _ ?_
   refine wp_seq_k fun K21 b8=>zS fun K h=>zP hf rfl (pFA dS rfl) fun a hf=>zL hf hc aU m0 rfl fun a w hf hc=>zP hf rfl (pFA dC rfl) fun a hf=>zL hf hc aU m0 rfl fun a w hf hc=>sp 1 hf rfl fun a hf=>zT h ?_
   refine zI hf rfl hF ?_ ?_ <;> clear hF <;> intro hF
   ·refine zS fun K h=>sp 2 hf rfl fun a hf=>zT h ?_
    refine wp_ret ?_
    refine aO ?_
    refine bU ?_
    refine aO ?_
    refine aO ?_
    have he:=sj hF
    rw [← he] at ab
    replace hF:=b2 _ ab
    refine bU ?_
    refine aO ?_
    obtain rfl:=hF
    replace hc:=hc.nilRow 41 2
    replace hc:=(((((((hc.drop k8).drop k7).drop k6).drop k5).drop k4).drop k3).drop k2).drop k1
    refine aA3 hf ?_
    refine zJ [.row none 0 [] 41 2] (D_1::Ds) hc fun w hc=>?_
    replace hc:Ctx G (.row none 0 [] 41 2::Lf) w:=hc
    exact aGa Tryz.results31 hf hc (show dG _ 4=_ from rfl) (show dG _ 5=_ from rfl) ⟨none,0,rfl,hc⟩
   ·refine wp_skip ?_
    refine b8 _ _ ?_
    refine dE ?_
    refine sp 1 hf rfl fun a hf=>zN hf hc eA m0 rfl fun a w hf hc=>mY (rows:=([(⟨X,Z⟩:aA)]:List aA).map aC) (vs:=[(0,.agg #[i6 X,i6 Z])]) hf hc rfl rfl tR rfl ⟨rfl,rfl,rfl,trivial⟩ rfl rfl fun cc a w hf hc=>?_
    obtain ⟨br,ba,hF⟩:=aB hF
    refine nT (xs:=out) (ys:=([(⟨X,Z⟩:aA)]:List aA)) hf hc rfl rfl tR rfl rfl rfl rfl rfl eF (iL hc m0) (fun _ _=>u3) (by simpa using eR ba) fun bp bn a w hf hc=>sp 1 hf rfl fun a hf=>aP ?_
    replace hc:=((hc.drop k2).drop k1).drop k0
    refine bz _ _ ?_
    refine dE ?_
    refine sp 2 hf rfl fun a hf=>aP ?_
    exact ca ((out++[(⟨X,Z⟩:aA)]),W (x + 1)) _ _ (sj hF).symm ⟨bp,bn,m,H,Y,I,(D_1::Ds),hf.kp rfl,hc⟩
  ·rintro D_1 ⟨X,Z⟩ _ a w a2 ⟨m,H,Y,I,rfl⟩ hf hc
   replace hf:Has ⟨70,lY (D_1::Ds)⟩ a [(3,pq U),(6,pq R),(7,pq V),(8,.slice M out.length O),(9,pq d),(10,pq k),(18,i6 ((l.length:Nat):Int)),(19,i6 x)]:=hf.kp rfl
   replace hc:Ctx G (.box k [i6 X,i6 Z] 41::.box d [i6 x] 3::.row M O (out.map aC) 41 2::.box V [.slice Y D.length I] 72::.box R [.slice m r.length H] 72::.row Y I (D.map bA) 77 601::.row m H (r.map bA) 77 601::.box U [i6 most] 3::(oH (D_1::Ds)++Lf)) w:=nL (C:=[]) (L:=[.box k [i6 X,i6 Z] 41,.box d [i6 x] 3,.row M O (out.map aC) 41 2,.box V [.slice Y D.length I] 72,.box R [.slice m r.length H] 72,.row Y I (D.map bA) 77 601,.row m H (r.map bA) 77 601,.box U [i6 most] 3]) hc
   replace hF:(none)=some bm:=by subst a2; exact hF
   cases hF
 ·refine wp_exit ?_
  refine aV ?_
  refine aV ?_
  have he:=sj hF
  rw [← he] at ab
  refine eW ?_
  exact b4 _ _ _ ab ⟨M,O,aa,u,y,z,Ds,hf.kp rfl,hc⟩

def lA (N:Nat) (x:Int) (B:Int) (D:Int→Option Int):Option (cY (Int × Int × (Int→Option Int)) (aA × Int)) :=
 some (.cont (B,W (x + 1),D))
def rF (N:Nat) (r:aH) (day:Int) (B:Int) (x:Int) (mp:Int→Option Int):Option (cY (Int × Int × (Int→Option Int)) (aA × Int)) :=
 cond (decide (x < ((r.Gaugings.length:Nat):Int)))
 (Option.bind (bG r.Gaugings x) fun D=>
 cond (decide (D.Day < day))
 (lA N x (W (x + 1)) (wL mp D.Day x))
 (lA N x B (wL mp D.Day x)))
 (some (.brk (B,x,mp)))
def fN (N:Nat) (r:aH) (most:Int) (at_:Int) (B:Int) (l:List aA):Option (aA × Int) :=
 Option.bind (sP N l most) fun J=>
 cond (!J.2)
 (some ((⟨0,0⟩:aA),5))
 (Option.bind (bG J.1 B) fun O=>
 Option.bind (iX N r.Rating (W (at_ - O.Hi))) fun I=>
 Option.bind (bG J.1 B) fun M=>
 Option.bind (iX N r.Rating (W (at_ - M.Lo))) fun H=>
 Option.bind (nz I.D) fun un=>
 Option.bind (nz H.D) fun R=>
 some ((⟨W (I.N.tdiv I.D),W ((W ((W (H.N + H.D)) - 1)).tdiv H.D)⟩:aA),0))
def jA (N:Nat) (H:Int) (B:Int) (D:Int→Option Int):Option (cY (Int × Int × (Int→Option Int)) (aA × Int)) :=
 some (.cont (B,W (H + 1),D))
def fR (N:Nat) (r:aH) (day:Int) (D:Int) (B:Int) (H:Int→Option Int):Option (cY (Int × Int × (Int→Option Int)) (aA × Int)) :=
 cond (decide (B < ((r.Gaugings.length:Nat):Int)))
 (Option.bind (bG r.Gaugings B) fun I=>
 cond (decide (I.Day < day))
 (jA N B (W (B + 1)) (wL H I.Day B))
 (jA N B D (wL H I.Day B)))
 (some (.brk (D,B,H)))
def kT (N:Nat) (r:aH) (most:Int) (day:Int) (at_:Int):Option (aA × Int) :=
 Option.bind (gK N r) (yA (fun I=>cond (I != 0)
 (some ((⟨0,0⟩:aA),I))
 (cond (((!(aG most 0 18000)) || (!(aG day 0 40000))) || (!(aY at_)))
 (some ((⟨0,0⟩:aA),4))
 (Option.bind (bE (fun H=>rF N r day H.1 H.2.1 H.2.2) N (0,0,(fun _=>none:Int→Option Int))) fun J=>
 exK J (fun H=>none) some)))
 (fun D=>cond (D.2 != 0)
 (some ((⟨0,0⟩:aA),D.2))
 (cond (((!(aG most 0 18000)) || (!(aG day 0 40000))) || (!(aY at_)))
 (some ((⟨0,0⟩:aA),4))
 (Option.bind (bE (fun B=>fR N r day B.1 B.2.1 B.2.2) N (0,0,(fun _=>none:Int→Option Int))) fun M=>
 exK M (fun B=>cond (!((B.2.2 day).isSome))
 (Option.bind (bJ N D.1) fun O=>
 Option.bind (bZ N O B.1 ([(⟨(-300),300⟩:aA)]:List aA)) fun R=>
 fN N r most at_ B.1 R)
 (fN N r most at_ B.1 D.1)) some))))
theorem yD {N:Nat} {G:aS} {Lf:List Ent} {w:World} (r:aH) (most:Int) (day:Int) (at_:Int) {J:Option Addr} {I:Nat} {H:Option Addr} {B:Nat} (Y:Rd G 2 J I (r.Rating.map aW)) (X:Rd G 4 H B (r.Gaugings.map aX)) (hc:Ctx G (Lf) w) {ab:aA × Int} (hF:kT N r most day at_=some ab):Calls Tryz.prog 10 #[.agg #[.slice J r.Rating.length I,.slice H r.Gaugings.length B],i6 most,i6 day,i6 at_] w (fun e w=>e=.returned (.tuple #[.agg #[i6 ab.1.Lo,i6 ab.1.Hi],i6 ab.2])∧Ctx G (Lf) w):=by
 unfold kT at hF
 refine cB Tryz.func10 rfl Tryz.ntmps10 rfl fun a hf=>zS fun K h=>zB hf hc rfl fun V a w hf hc=>zA hf hc kX rfl fun U a w hf hc=>sp 1 hf rfl fun a hf=>zT h ?_
 refine zS fun K h=>zN hf hc vY m1 rfl fun a w hf hc=>?_
 obtain ⟨bm,a9,hF⟩:=aB hF
 cases bm with
 | inl bm=>
  replace hF:=yX hF
  refine zC hf aCk rfl (iT r Y X hc a9) ?_
  rintro _ w ⟨rfl,hc⟩
  refine ⟨_,rfl,fun a hf=>?_⟩
  refine sp 5 hf rfl fun a hf=>zT h ?_
  refine wp_seq_k fun K3 h3=>wp_block ?_
  refine zS fun K h=>sp 3 hf rfl fun a hf=>zT h ?_
  refine zI hf rfl hF ?_ ?_ <;> clear hF <;> intro hF
  ·refine zS fun K h=>zP hf rfl (bH (cells:=[i6 0,i6 0]) iY rfl rfl) fun a hf=>sp 1 hf rfl fun a hf=>zW hf hc cA u0 rfl fun w hc=>sp 1 hf rfl fun a hf=>zT h ?_
   refine wp_ret ?_
   refine bU ?_
   refine aO ?_
   obtain rfl:=sj hF
   replace hc:=hc.drop k1
   exact nQ (by simp) rfl Tryz.results10 hf hc (cR (vs:=[i6 0,i6 0]) eA rfl rfl (bO (n:=2) m0 rfl)) (show dG _ 9=_ from rfl) ⟨rfl,(hc.drop k0)⟩
  ·refine zS fun K h=>sp 1 hf rfl fun a hf=>zQ (v:=.bool (aG most 0 18000)) hf hc rI rfl (fun w hc=>eO most 0 18000 hc rfl) fun a w hf hc=>sp 2 hf rfl fun a hf=>hY 4 (fun a=>Has 130 a [(1,i6 most),(2,i6 day),(3,i6 at_),(4,pq V),(8,pq U),(10,.pointer none),(34,i6 most),(35,.bool (aG most 0 18000)),(36,.bool (!(aG most 0 18000))),(37,.bool (!(aG most 0 18000))),(41,.bool ((!(aG most 0 18000)) || (!(aG day 0 40000))))]) hc ?_ ?_
   ·cases hb:(!(aG most 0 18000))
    ·rw [hb] at hf
     refine sp 1 hf rfl fun a hf=>zQ (v:=.bool (aG day 0 40000)) hf hc rI rfl (fun w hc=>eO day 0 40000 hc rfl) fun a w hf hc=>sp 2 hf rfl fun a hf=>aP ⟨hf.kp rfl,hc⟩
    ·rw [hb] at hf
     refine stS hf rfl rfl rfl fun a hf=>stS hf rfl rfl rfl fun a hf=>stS hf rfl rfl rfl fun a hf=>sp 1 hf rfl fun a hf=>aP ⟨hf.kp rfl,hc⟩
   intro a w ⟨hf,hc⟩
   refine sp 1 hf rfl fun a hf=>hY 4 (fun a=>Has 130 a [(1,i6 most),(2,i6 day),(3,i6 at_),(4,pq V),(8,pq U),(10,.pointer none),(34,i6 most),(35,.bool (aG most 0 18000)),(36,.bool (!(aG most 0 18000))),(37,.bool (!(aG most 0 18000))),(41,.bool ((!(aG most 0 18000)) || (!(aG day 0 40000)))),(42,.bool ((!(aG most 0 18000)) || (!(aG day 0 40000)))),(46,.bool (((!(aG most 0 18000)) || (!(aG day 0 40000))) || (!(aY at_))))]) hc ?_ ?_
   ·cases hb:((!(aG most 0 18000)) || (!(aG day 0 40000)))
    ·rw [hb] at hf
     refine sp 1 hf rfl fun a hf=>zQ (v:=.bool (aY at_)) hf hc aD6 rfl (fun w hc=>lG at_ hc rfl) fun a w hf hc=>sp 2 hf rfl fun a hf=>aP ⟨hf.kp rfl,hc⟩
    ·rw [hb] at hf
     refine stS hf rfl rfl rfl fun a hf=>stS hf rfl rfl rfl fun a hf=>stS hf rfl rfl rfl fun a hf=>sp 1 hf rfl fun a hf=>aP ⟨hf.kp rfl,hc⟩
   intro a w ⟨hf,hc⟩
   refine sp 1 hf rfl fun a hf=>zT h ?_
   refine zI hf rfl hF ?_ ?_ <;> clear hF <;> intro hF
   ·refine zS fun K h=>zP hf rfl (bH (cells:=[i6 0,i6 0]) iY rfl rfl) fun a hf=>zW hf hc cA u0 rfl fun w hc=>sp 1 hf rfl fun a hf=>zT h ?_
    refine wp_ret ?_
    refine bU ?_
    refine aO ?_
    obtain rfl:=sj hF
    replace hc:=hc.drop k1
    exact nQ (by simp) rfl Tryz.results10 hf hc (cR (vs:=[i6 0,i6 0]) eA rfl rfl (bO (n:=2) m0 rfl)) (show dG _ 9=_ from rfl) ⟨rfl,(hc.drop k0)⟩
   ·refine wp_skip ?_
    refine h3 _ _ ?_
    refine zS fun K h=>stMM hf hc rfl rfl fun mb a w hf hc=>?_
    replace hc:Ctx _ (.im mb (fun j=>((fun _=>none:Int→Option Int) j).map (Value.int .i64)) none::_) w:=hc
    refine sp 1 hf rfl fun a hf=>zT h ?_
    refine zS fun K h=>sp 1 hf rfl fun a hf=>zT h ?_
    refine wp_seq_k fun K10 cj=>zS fun K h=>zP hf rfl (pFA jQ rfl) fun a hf=>zL hf hc qK m2 rfl fun a w hf hc=>zP hf rfl (bM Tryz.underlying24 rfl) fun a hf=>sp 1 hf rfl fun a hf=>zT h ?_
    refine wp_block ?_
    obtain ⟨bd,b5,hF⟩:=aB hF
    let S12:(Int × Int × (Int→Option Int))→Act→World→Prop:=(fun (zz:Int × Int × (Int→Option Int)) a w=>Has 130 a [(1,i6 most),(2,i6 day),(3,i6 at_),(4,pq V),(8,pq U),(10,.pointer none),(12,.map (some mb)),(13,i6 zz.1),(50,.slice H r.Gaugings.length B),(51,i6 ((r.Gaugings.length:Nat):Int)),(52,i6 zz.2.1)]∧Ctx G (.im mb (fun j=>(zz.2.2 j).map (Value.int .i64)) none::.box U [i6 0,i6 0] 41::.box V [.slice J r.Rating.length I,.slice H r.Gaugings.length B] 26::Lf) w)
    have bv:∀ (zz:Int × Int × (Int→Option Int)) a w,bd=.go zz→S12 zz a w→K10 a w:=by
     rintro ⟨a0,x,mp⟩ a w rfl ⟨hf,hc⟩
     replace hF:=bW hF
     refine cj _ _ ?_
     refine wp_seq_k fun K13 dg=>wX hF
    have c4:∀ r,bd=.out r→r=ab:=by
     rintro r rfl
     exact sj hF
    refine dO N (dH (S:=S12) (x:=bd) ?_ N (0,0,(fun _=>none:Int→Option Int)) _ _ ⟨hf.kp rfl,hc⟩ b5)
    clear hF hf hc
    rintro ⟨a0,x,mp⟩ bz a w KB12 ⟨hf,hc⟩ hF au cd
    unfold rF at hF
    refine zS fun K h=>sp 1 hf rfl fun a hf=>zT h ?_
    refine wp_seq_k fun K15 ci=>zI hf rfl hF ?_ ?_ <;> clear hF <;> intro hF
    ·refine wp_skip ?_
     refine ci _ _ ?_
     refine wp_seq_k fun K16 c3=>?_
     have bj:∀ (k:Int) (ap:Int→Option Int) a w,Has 130 a [(1,i6 most),(2,i6 day),(3,i6 at_),(4,pq V),(8,pq U),(10,.pointer none),(12,.map (some mb)),(13,i6 k),(50,.slice H r.Gaugings.length B),(51,i6 ((r.Gaugings.length:Nat):Int)),(52,i6 x)]→Ctx G (.im mb (fun j=>(ap j).map (Value.int .i64)) none::.box U [i6 0,i6 0] 41::.box V [.slice J r.Rating.length I,.slice H r.Gaugings.length B] 26::Lf) w→lA N x k ap=some bz→K16 a w:=by
      repeat (clear hF)
      repeat (clear hc)
      repeat (clear hf)
      intro k ap a w hf hc hF
      unfold lA at hF
      refine c3 _ _ ?_
      refine dE ?_
      refine sp 2 hf rfl fun a hf=>aP ?_
      exact cd (k,W (x + 1),ap) _ _ (sj hF).symm ⟨hf.kp rfl,hc⟩
     refine wp_block ?_
     refine zS fun K h=>sp 1 hf rfl fun a hf=>?_
     obtain ⟨af,bx,hF⟩:=aB hF
     obtain ⟨di,o,qa,qp⟩:=X.atm bx
     refine zP hf rfl (pIA Tryz.underlying24 rK rfl rfl qa) fun a hf=>zE hf hc rfl (jM (vs:=[i6 af.Day,i6 af.Stage,i6 af.Flow.Lo,i6 af.Flow.Hi]) yS rfl rfl (cI qp (n:=4) (o':=0) rfl)) fun a w hf hc=>zA hf hc aEg rfl fun db a w hf hc=>sp 1 hf rfl fun a hf=>zW hf hc rK u0 rfl fun w hc=>zT h ?_
     refine zS fun K h=>sp 1 hf rfl fun a hf=>zP hf rfl (pFA oP rfl) fun a hf=>zL hf hc aU m0 rfl fun a w hf hc=>sp 1 hf rfl fun a hf=>stMU (enc:=(Value.int .i64)) (m:=mp) (v:=x) hf hc rfl Tryz.underlying85 Tryz.underlying3 rfl rfl rfl u1 fun w hc=>zT h ?_
     refine zS fun K h=>zP hf rfl (pFA oP rfl) fun a hf=>zL hf hc aU m0 rfl fun a w hf hc=>sp 2 hf rfl fun a hf=>zT h ?_
     refine zI hf rfl hF ?_ ?_ <;> clear hF <;> intro hF
     ·refine dE ?_
      refine sp 3 hf rfl fun a hf=>aP ?_
      replace hc:=hc.drop k0
      exact bj (W (x + 1)) (wL mp af.Day x) _ _  (hf.kp rfl) hc hF
     ·refine wp_skip ?_
      replace hc:=hc.drop k0
      exact bj a0 (wL mp af.Day x) _ _  (hf.kp rfl) hc hF
    ·refine wp_exit ?_
     refine aV ?_
     refine aV ?_
     have he:=sj hF
     rw [← he] at au
     refine eW ?_
     exact bv _ _ _ au ⟨hf.kp rfl,hc⟩
 | inr aj=>
  replace hF:=yU hF
  have b6:=a9
  refine zC hf aCk rfl (iT r Y X hc b6) ?_
  rintro _ w ⟨ai,ar,aq,rfl,hc⟩
  refine ⟨_,rfl,fun a hf=>?_⟩
  refine sp 5 hf rfl fun a hf=>zT h ?_
  refine wp_seq_k fun K20 c1=>wp_block ?_
  refine zS fun K h=>sp 3 hf rfl fun a hf=>zT h ?_
  refine zI hf rfl hF ?_ ?_ <;> clear hF <;> intro hF
  ·refine zS fun K h=>zP hf rfl (bH (cells:=[i6 0,i6 0]) iY rfl rfl) fun a hf=>sp 1 hf rfl fun a hf=>zW hf hc cA u2 rfl fun w hc=>sp 1 hf rfl fun a hf=>zT h ?_
   refine wp_ret ?_
   refine bU ?_
   refine aO ?_
   obtain rfl:=sj hF
   replace hc:=((hc.drop k3).drop k1).drop k0
   exact nQ (by simp) rfl Tryz.results10 hf hc (cR (vs:=[i6 0,i6 0]) eA rfl rfl (bO (n:=2) m0 rfl)) (show dG _ 9=_ from rfl) ⟨rfl,(hc.drop k0)⟩
  ·refine zS fun K h=>sp 1 hf rfl fun a hf=>zQ (v:=.bool (aG most 0 18000)) hf hc rI rfl (fun w hc=>eO most 0 18000 hc rfl) fun a w hf hc=>sp 2 hf rfl fun a hf=>hY 4 (fun a=>Has 130 a [(1,i6 most),(2,i6 day),(3,i6 at_),(4,pq V),(8,pq U),(10,pq ai),(34,i6 most),(35,.bool (aG most 0 18000)),(36,.bool (!(aG most 0 18000))),(37,.bool (!(aG most 0 18000))),(41,.bool ((!(aG most 0 18000)) || (!(aG day 0 40000))))]) hc ?_ ?_
   ·cases hb:(!(aG most 0 18000))
    ·rw [hb] at hf
     refine sp 1 hf rfl fun a hf=>zQ (v:=.bool (aG day 0 40000)) hf hc rI rfl (fun w hc=>eO day 0 40000 hc rfl) fun a w hf hc=>sp 2 hf rfl fun a hf=>aP ⟨hf.kp rfl,hc⟩
    ·rw [hb] at hf
     refine stS hf rfl rfl rfl fun a hf=>stS hf rfl rfl rfl fun a hf=>stS hf rfl rfl rfl fun a hf=>sp 1 hf rfl fun a hf=>aP ⟨hf.kp rfl,hc⟩
   intro a w ⟨hf,hc⟩
   refine sp 1 hf rfl fun a hf=>hY 4 (fun a=>Has 130 a [(1,i6 most),(2,i6 day),(3,i6 at_),(4,pq V),(8,pq U),(10,pq ai),(34,i6 most),(35,.bool (aG most 0 18000)),(36,.bool (!(aG most 0 18000))),(37,.bool (!(aG most 0 18000))),(41,.bool ((!(aG most 0 18000)) || (!(aG day 0 40000)))),(42,.bool ((!(aG most 0 18000)) || (!(aG day 0 40000)))),(46,.bool (((!(aG most 0 18000)) || (!(aG day 0 40000))) || (!(aY at_))))]) hc ?_ ?_
   ·cases hb:((!(aG most 0 18000)) || (!(aG day 0 40000)))
    ·rw [hb] at hf
     refine sp 1 hf rfl fun a hf=>zQ (v:=.bool (aY at_)) hf hc aD6 rfl (fun w hc=>lG at_ hc rfl) fun a w hf hc=>sp 2 hf rfl fun a hf=>aP ⟨hf.kp rfl,hc⟩
    ·rw [hb] at hf
     refine stS hf rfl rfl rfl fun a hf=>stS hf rfl rfl rfl fun a hf=>stS hf rfl rfl rfl fun a hf=>sp 1 hf rfl fun a hf=>aP ⟨hf.kp rfl,hc⟩
   intro a w ⟨hf,hc⟩
   refine sp 1 hf rfl fun a hf=>zT h ?_
   refine zI hf rfl hF ?_ ?_ <;> clear hF <;> intro hF
   ·refine zS fun K h=>zP hf rfl (bH (cells:=[i6 0,i6 0]) iY rfl rfl) fun a hf=>zW hf hc cA u2 rfl fun w hc=>sp 1 hf rfl fun a hf=>zT h ?_
    refine wp_ret ?_
    refine bU ?_
    refine aO ?_
    obtain rfl:=sj hF
    replace hc:=((hc.drop k3).drop k1).drop k0
    exact nQ (by simp) rfl Tryz.results10 hf hc (cR (vs:=[i6 0,i6 0]) eA rfl rfl (bO (n:=2) m0 rfl)) (show dG _ 9=_ from rfl) ⟨rfl,(hc.drop k0)⟩
   ·refine wp_skip ?_
    refine c1 _ _ ?_
    refine zS fun K h=>stMM hf hc rfl rfl fun Z a w hf hc=>?_
    replace hc:Ctx _ (.im Z (fun j=>((fun _=>none:Int→Option Int) j).map (Value.int .i64)) none::_) w:=hc
    refine sp 1 hf rfl fun a hf=>zT h ?_
    refine zS fun K h=>sp 1 hf rfl fun a hf=>zT h ?_
    refine wp_seq_k fun K27 cv=>zS fun K h=>zP hf rfl (pFA jQ rfl) fun a hf=>zL hf hc qK m4 rfl fun a w hf hc=>zP hf rfl (bM Tryz.underlying24 rfl) fun a hf=>sp 1 hf rfl fun a hf=>zT h ?_
    refine wp_block ?_
    obtain ⟨a8,bn,hF⟩:=aB hF
    let S29:(Int × Int × (Int→Option Int))→Act→World→Prop:=(fun (zz:Int × Int × (Int→Option Int)) a w=>Has 130 a [(1,i6 most),(2,i6 day),(3,i6 at_),(4,pq V),(8,pq U),(10,pq ai),(12,.map (some Z)),(13,i6 zz.1),(50,.slice H r.Gaugings.length B),(51,i6 ((r.Gaugings.length:Nat):Int)),(52,i6 zz.2.1)]∧Ctx G (.im Z (fun j=>(zz.2.2 j).map (Value.int .i64)) none::.row ar aq (aj.1.map aC) 41 2::.box ai [.slice J r.Rating.length I,.slice H r.Gaugings.length B,.slice ar aj.1.length aq] 75::.box U [i6 0,i6 0] 41::.box V [.slice J r.Rating.length I,.slice H r.Gaugings.length B] 26::Lf) w)
    have bu:∀ (zz:Int × Int × (Int→Option Int)) a w,a8=.go zz→S29 zz a w→K27 a w:=by
     rintro ⟨O,y,d⟩ a w rfl ⟨hf,hc⟩
     replace hF:=bW hF
     refine cv _ _ ?_
     refine zS fun K h=>sp 2 hf rfl fun a hf=>zP hf rfl (pFA xL rfl) fun a hf=>zL hf hc oW m2 rfl fun a w hf hc=>sp 1 hf rfl fun a hf=>zT h ?_
     refine wp_seq_k fun K31 cs=>?_
     have a3:∀ (l:List aA) (ac:Option Addr) (aa:Nat) a w,Has 130 a [(1,i6 most),(3,i6 at_),(4,pq V),(8,pq U),(13,i6 O),(16,.slice ac l.length aa)]→Ctx G (.row ac aa (l.map aC) 41 2::.im Z (fun j=>(d j).map (Value.int .i64)) none::.box U [i6 0,i6 0] 41::.box V [.slice J r.Rating.length I,.slice H r.Gaugings.length B] 26::Lf) w→fN N r most at_ O l=some ab→K31 a w:=by
      repeat (clear hF)
      repeat (clear hc)
      repeat (clear hf)
      intro l ac aa a w hf hc hF
      unfold fN at hF
      refine cs _ _ ?_
      refine zS fun K h=>sp 2 hf rfl fun a hf=>?_
      obtain ⟨z,cb,hF⟩:=aB hF
      obtain ⟨G1,bq,ax,hc,ay⟩:=lend hc k0
      refine zC hf en_31 rfl (aC4 l most ax hc cb) ?_
      rintro _ w ⟨dd,ad,rfl,hc⟩
      refine ⟨_,rfl,fun a hf=>?_⟩
      replace hc:=ay _ _ hc
      refine sp 5 hf rfl fun a hf=>zT h ?_
      refine wp_seq_k fun K33 cr=>zS fun K h=>sp 2 hf rfl fun a hf=>zT h ?_
      refine zI hf rfl hF ?_ ?_ <;> clear hF <;> intro hF
      ·refine zS fun K h=>zP hf rfl (bH (cells:=[i6 0,i6 0]) iY rfl rfl) fun a hf=>zW hf hc cA u3 rfl fun w hc=>sp 1 hf rfl fun a hf=>zT h ?_
       refine wp_ret ?_
       refine aO ?_
       obtain rfl:=sj hF
       replace hc:=(((hc.drop k4).drop k2).drop k1).drop k0
       exact nQ (by simp) rfl Tryz.results10 hf hc (cR (vs:=[i6 0,i6 0]) eA rfl rfl (bO (n:=2) m0 rfl)) (show dG _ 9=_ from rfl) ⟨rfl,(hc.drop k0)⟩
      ·refine wp_skip ?_
       refine cr _ _ ?_
       refine wp_seq_k fun K36 cx=>?_
       obtain ⟨a7,b0,hF⟩:=aB hF
       obtain ⟨g,rfl,b3,qr⟩:=gH hc m1 b0
       obtain ⟨R,ca,hF⟩:=aB hF
       obtain ⟨bg,b2,hF⟩:=aB hF
       obtain ⟨b7,b8⟩:=kD hc m1 b2
       obtain ⟨M,bt,hF⟩:=aB hF
       replace hc:=hc.nilRow 0 0
       replace hc:=hc.nilRow 0 0
       refine fI (fun θ=>[⟨none,none,3,i6 at_⟩,⟨none,none,4,pq V⟩,⟨none,none,8,pq U⟩,⟨none,none,13,i6 O⟩,⟨none,none,19,.slice (some ⟨g,0,none⟩) z.1.length ad⟩,⟨some 0,none,95,pq V⟩,⟨some 1,none,96,.slice J r.Rating.length I⟩,⟨some 2,none,97,i6 at_⟩,⟨some 3,none,98,.slice (some ⟨g,0,none⟩) z.1.length ad⟩,⟨some 4,none,99,i6 O⟩,⟨some 5,none,100,.pointer (some ⟨g,O.toNat * 2,none⟩)⟩,⟨some 6,none,101,.pointer (some ⟨g,O.toNat * 2 + 1,none⟩)⟩,⟨some 7,none,102,i6 a7.Hi⟩,⟨some 8,none,103,i6 (W (at_ - a7.Hi))⟩,⟨some 9,none,104,.agg #[i6 R.N,i6 R.D]⟩,⟨some 10,none,105,pq V⟩,⟨some 11,none,106,.slice J r.Rating.length I⟩,⟨some 12,none,107,i6 at_⟩,⟨some 13,none,108,.slice (some ⟨g,0,none⟩) z.1.length ad⟩,⟨some 14,none,109,i6 O⟩,⟨some 15,none,110,.pointer (some ⟨g,O.toNat * 2,none⟩)⟩,⟨some 16,none,111,.pointer (some ⟨g,O.toNat * 2 + 0,none⟩)⟩,⟨some 17,none,112,i6 bg.Lo⟩,⟨some 18,none,113,i6 (W (at_ - bg.Lo))⟩,⟨some 19,none,114,.agg #[i6 M.N,i6 M.D]⟩,⟨some 20,none,21,.pointer (some ⟨(θ 160).b,0,none⟩)⟩,⟨some 21,none,22,.pointer (some ⟨(θ 168).b,0,none⟩)⟩]) (fun E θ=>(bif E 23 then .box (θ 168).b [i6 M.N,i6 M.D] 46 else bif E 21 then .box (θ 168).b [i6 0,i6 0] 46 else .row none 0 [] 0 0)::(bif E 22 then .box (θ 160).b [i6 R.N,i6 R.D] 46 else bif E 20 then .box (θ 160).b [i6 0,i6 0] 46 else .row none 0 [] 0 0)::.row ac aa (l.map aC) 41 2::.row (some ⟨g,0,none⟩) ad (z.1.map aC) 41 2::.im Z (fun j=>(d j).map (Value.int .i64)) none::.box U [i6 0,i6 0] 41::.box V [.slice J r.Rating.length I,.slice H r.Gaugings.length B] 26::Lf) [(22,20),(23,21)] (fun a w=>∃ (t:Nat) (s:Nat),Has 130 a [(8,pq U),(21,pq t),(22,pq s)]∧Ctx G (.box s [i6 M.N,i6 M.D] 46::.box t [i6 R.N,i6 R.D] 46::.row ac aa (l.map aC) 41 2::.row (some ⟨g,0,none⟩) ad (z.1.map aC) 41 2::.im Z (fun j=>(d j).map (Value.int .i64)) none::.box U [i6 0,i6 0] 41::.box V [.slice J r.Rating.length I,.slice H r.Gaugings.length B] 26::Lf) w) aT (by kernel_rfl) (by kernel_rfl) (eZ.of hf ⟨rfl,rfl,rfl,rfl,rfl,trivial,trivial,trivial,trivial,trivial,trivial,trivial,trivial,trivial,trivial,trivial,trivial,trivial,trivial,trivial,trivial,trivial,trivial,trivial,trivial,trivial,trivial,trivial⟩) hc ⟨?_,?_,?_,?_,?_,?_,?_,?_,?_,?_,?_,?_,?_,?_,?_,?_,?_,?_,?_,?_,?_,?_,?_,?_,trivial⟩ ?_ ?_
       ·intro E θ a w hD hi hp he hc
        have hf:=he.h0.mT he 1 rfl
        refine zP hf rfl (pFA oQ rfl) fun a hf=>zD θ he hi hf 5 rfl rfl rfl hc
       ·intro E θ a w hD hi hp he hc
        have e0:=hp.o 0 rfl
        have hf:=he.h0.mP he 5 rfl e0
        refine zL hf hc wC m6 rfl fun a w hf hc=>zD θ he hi hf 6 rfl rfl rfl hc
       ·intro E θ a w hD hi hp he hc
        have hf:=he.h0.mT he 0 rfl
        refine sp 1 hf rfl fun a hf=>zD θ he hi hf 7 rfl rfl rfl hc
       ·intro E θ a w hD hi hp he hc
        have hf:=he.h0.mT he 4 rfl
        refine sp 1 hf rfl fun a hf=>zD θ he hi hf 8 rfl rfl rfl hc
       ·intro E θ a w hD hi hp he hc
        have hf:=he.h0.mT he 3 rfl
        refine sp 1 hf rfl fun a hf=>zD θ he hi hf 9 rfl rfl rfl hc
       ·intro E θ a w hD hi hp he hc
        have e3:=hp.o 3 rfl
        have e4:=hp.o 4 rfl
        have hf:=(he.h0.mP he 8 rfl e3).mP he 9 rfl e4
        refine zP hf rfl (pIA Tryz.underlying54 cA rfl rfl b3) fun a hf=>zD θ he hi hf 10 rfl rfl rfl hc
       ·intro E θ a w hD hi hp he hc
        have e5:=hp.o 5 rfl
        have hf:=he.h0.mP he 10 rfl e5
        refine zP hf rfl (pFA dC rfl) fun a hf=>zD θ he hi hf 11 rfl rfl rfl hc
       ·intro E θ a w hD hi hp he hc
        have e6:=hp.o 6 rfl
        have hf:=he.h0.mP he 11 rfl e6
        refine zE hf hc rfl (cE aU rfl (dA (sz:=2) (i:=O.toNat) (j:=1) m3 qr rfl)) fun a w hf hc=>zD θ he hi hf 12 rfl rfl rfl hc
       ·intro E θ a w hD hi hp he hc
        have e2:=hp.o 2 rfl
        have e7:=hp.o 7 rfl
        have hf:=(he.h0.mP he 7 rfl e2).mP he 12 rfl e7
        refine sp 1 hf rfl fun a hf=>zD θ he hi hf 13 rfl rfl rfl hc
       ·intro E θ a w hD hi hp he hc
        have e1:=hp.o 1 rfl
        have e8:=hp.o 8 rfl
        have hf:=(he.h0.mP he 6 rfl e1).mP he 13 rfl e8
        refine zQ (v:=.agg #[i6 R.N,i6 R.D]) hf hc aGh rfl (fun w hc=>nN r.Rating (W (at_ - a7.Hi)) Y hc ca) fun a w hf hc=>zD θ he hi hf 14 rfl rfl rfl hc
       ·intro E θ a w hD hi hp he hc
        have hf:=he.h0.mT he 1 rfl
        refine zP hf rfl (pFA oQ rfl) fun a hf=>zD θ he hi hf 15 rfl rfl rfl hc
       ·intro E θ a w hD hi hp he hc
        have a2:=hp.o 10 rfl
        have hf:=he.h0.mP he 15 rfl a2
        refine zL hf hc wC m6 rfl fun a w hf hc=>zD θ he hi hf 16 rfl rfl rfl hc
       ·intro E θ a w hD hi hp he hc
        have hf:=he.h0.mT he 0 rfl
        refine sp 1 hf rfl fun a hf=>zD θ he hi hf 17 rfl rfl rfl hc
       ·intro E θ a w hD hi hp he hc
        have hf:=he.h0.mT he 4 rfl
        refine sp 1 hf rfl fun a hf=>zD θ he hi hf 18 rfl rfl rfl hc
       ·intro E θ a w hD hi hp he hc
        have hf:=he.h0.mT he 3 rfl
        refine sp 1 hf rfl fun a hf=>zD θ he hi hf 19 rfl rfl rfl hc
       ·intro E θ a w hD hi hp he hc
        have bf:=hp.o 13 rfl
        have a4:=hp.o 14 rfl
        have hf:=(he.h0.mP he 18 rfl bf).mP he 19 rfl a4
        refine zP hf rfl (pIA Tryz.underlying54 cA rfl rfl b7) fun a hf=>zD θ he hi hf 20 rfl rfl rfl hc
       ·intro E θ a w hD hi hp he hc
        have bc:=hp.o 15 rfl
        have hf:=he.h0.mP he 20 rfl bc
        refine zP hf rfl (pFA dS rfl) fun a hf=>zD θ he hi hf 21 rfl rfl rfl hc
       ·intro E θ a w hD hi hp he hc
        have bi:=hp.o 16 rfl
        have hf:=he.h0.mP he 21 rfl bi
        refine zE hf hc rfl (cE aU rfl (dA (sz:=2) (i:=O.toNat) (j:=0) m3 b8 rfl)) fun a w hf hc=>zD θ he hi hf 22 rfl rfl rfl hc
       ·intro E θ a w hD hi hp he hc
        have a5:=hp.o 12 rfl
        have c2:=hp.o 17 rfl
        have hf:=(he.h0.mP he 17 rfl a5).mP he 22 rfl c2
        refine sp 1 hf rfl fun a hf=>zD θ he hi hf 23 rfl rfl rfl hc
       ·intro E θ a w hD hi hp he hc
        have bb:=hp.o 11 rfl
        have cu:=hp.o 18 rfl
        have hf:=(he.h0.mP he 16 rfl bb).mP he 23 rfl cu
        refine zQ (v:=.agg #[i6 M.N,i6 M.D]) hf hc aGh rfl (fun w hc=>nN r.Rating (W (at_ - bg.Lo)) Y hc bt) fun a w hf hc=>zD θ he hi hf 24 rfl rfl rfl hc
       ·intro E θ a w hD hi hp he hc
        have az:=hD.f 0 rfl hi
        try dsimp only at hc
        rw [hi,az] at hc
        have hf:=he.h0
        refine zA hf hc xE rfl fun ck a w hf hc=>aP ?_
        refine eY ?_
        intro ds u a6
        replace hc:=((hc.drop k2).pick k0).pick k1
        refine ⟨(qW θ 160 ⟨ck,none,0,(fun _=>(none,0))⟩),he.put hi a6 hf rfl [] trivial ⟨qq,qq,qq,qq,qq,qq,qq,qq,qq,qq,qq,qq,qq,qq,qq,qq,qq,qq,qq,qq,qq,qq,qq,qq,qq,qq,qq,trivial⟩,?_⟩
        try dsimp only
        rw [aR E 20,aQ 20 az rfl]
        exact hc
       ·intro E θ a w hD hi hp he hc
        have a1:=hD.f 1 rfl hi
        try dsimp only at hc
        rw [hi,a1] at hc
        have hf:=he.h0
        refine zA hf hc xE rfl fun cm a w hf hc=>aP ?_
        refine eY ?_
        intro ds u a6
        replace hc:=hc.drop k1
        refine ⟨(qW θ 168 ⟨cm,none,0,(fun _=>(none,0))⟩),he.put hi a6 hf rfl [] trivial ⟨qq,qq,qq,qq,qq,qq,qq,qq,qq,qq,qq,qq,qq,qq,qq,qq,qq,qq,qq,qq,qq,qq,qq,qq,qq,qq,qq,trivial⟩,?_⟩
        try dsimp only
        rw [aR E 21,aQ 21 a1 rfl]
        exact hc
       ·intro E θ a w hD hi hp he hc
        have e9:=hp.o 9 rfl
        have am:=hp.o 20 rfl
        try dsimp only at hc
        rw [am,hi] at hc
        have hf:=(he.h0.mP he 14 rfl e9).mP he 25 rfl am
        refine zW hf hc tP u1 rfl fun w hc=>zG θ he hi hf rfl ?_
        try dsimp only
        rw [cV 22 am,aR E 22]
        exact hc
       ·intro E θ a w hD hi hp he hc
        have cz:=hp.o 19 rfl
        have ak:=hp.o 21 rfl
        try dsimp only at hc
        rw [ak,hi] at hc
        have hf:=(he.h0.mP he 24 rfl cz).mP he 26 rfl ak
        refine zW hf hc tP u0 rfl fun w hc=>zG θ he hi hf rfl ?_
        try dsimp only
        rw [cV 23 ak,aR E 23]
        exact hc
       ·intro E θ a w q he hc
        have hf:=he.h0
        have am:=q 20 rfl
        have ak:=q 21 rfl
        have az:=q 22 rfl
        have a1:=q 23 rfl
        replace hf:=hf.more he 26 rfl (onP ak)
        replace hf:=hf.more he 25 rfl (onP am)
        replace hf:=hf.more he 2 rfl (onT)
        try dsimp only at hc
        rw [am,ak,az,a1] at hc
        exact ⟨(θ 160).b,(θ 168).b,hf.kp rfl,hc⟩
       rintro a w ⟨t,s,hf,hc⟩
       refine cx _ _ ?_
       refine wp_seq_k fun K37 cf=>?_
       obtain ⟨un,c0,hF⟩:=aB hF
       obtain ⟨c7,bk,hF⟩:=aB hF
       refine fI (fun θ=>[⟨none,none,8,pq U⟩,⟨none,none,21,pq t⟩,⟨none,none,22,pq s⟩,⟨some 0,none,115,pq t⟩,⟨some 1,none,116,i6 R.N⟩,⟨some 2,none,117,.pointer (some ⟨t,1,none⟩)⟩,⟨some 3,none,118,i6 R.D⟩,⟨some 4,none,119,i6 (W (R.N.tdiv R.D))⟩,⟨some 5,none,120,pq s⟩,⟨some 6,none,121,i6 M.N⟩,⟨some 7,none,122,.pointer (some ⟨s,1,none⟩)⟩,⟨some 8,none,123,i6 M.D⟩,⟨some 9,none,124,i6 (W (M.N + M.D))⟩,⟨some 10,none,125,i6 (W ((W (M.N + M.D)) - 1))⟩,⟨some 11,none,126,.pointer (some ⟨s,1,none⟩)⟩,⟨some 12,none,127,i6 M.D⟩,⟨some 13,none,128,i6 (W ((W ((W (M.N + M.D)) - 1)).tdiv M.D))⟩,⟨some 14,none,129,.agg #[i6 (W (R.N.tdiv R.D)),i6 (W ((W ((W (M.N + M.D)) - 1)).tdiv M.D))]⟩,⟨some 16,none,9,i6 0⟩]) (fun E θ=>.box s [i6 M.N,i6 M.D] 46::.box t [i6 R.N,i6 R.D] 46::.row ac aa (l.map aC) 41 2::.row (some ⟨g,0,none⟩) ad (z.1.map aC) 41 2::.im Z (fun j=>(d j).map (Value.int .i64)) none::(bif E 15 then .box U [i6 (W (R.N.tdiv R.D)),i6 (W ((W ((W (M.N + M.D)) - 1)).tdiv M.D))] 41 else .box U [i6 0,i6 0] 41)::.box V [.slice J r.Rating.length I,.slice H r.Gaugings.length B] 26::Lf) [] (fun a w=>Has 130 a [(8,pq U),(9,i6 0)]∧Ctx G (.box s [i6 M.N,i6 M.D] 46::.box t [i6 R.N,i6 R.D] 46::.row ac aa (l.map aC) 41 2::.row (some ⟨g,0,none⟩) ad (z.1.map aC) 41 2::.im Z (fun j=>(d j).map (Value.int .i64)) none::.box U [i6 (W (R.N.tdiv R.D)),i6 (W ((W ((W (M.N + M.D)) - 1)).tdiv M.D))] 41::.box V [.slice J r.Rating.length I,.slice H r.Gaugings.length B] 26::Lf) w) aT (by kernel_rfl) (by kernel_rfl) (eZ.of hf ⟨rfl,rfl,rfl,trivial,trivial,trivial,trivial,trivial,trivial,trivial,trivial,trivial,trivial,trivial,trivial,trivial,trivial,trivial,trivial,trivial⟩) hc ⟨?_,?_,?_,?_,?_,?_,?_,?_,?_,?_,?_,?_,?_,?_,?_,?_,?_,trivial⟩ ?_ ?_
       ·intro E θ a w hD hi hp he hc
        have hf:=he.h0.mT he 1 rfl
        refine zP hf rfl (pFA qD rfl) fun a hf=>zD θ he hi hf 3 rfl rfl rfl hc
       ·intro E θ a w hD hi hp he hc
        have e0:=hp.o 0 rfl
        have hf:=he.h0.mP he 3 rfl e0
        refine zL hf hc aU m1 rfl fun a w hf hc=>zD θ he hi hf 4 rfl rfl rfl hc
       ·intro E θ a w hD hi hp he hc
        have hf:=he.h0.mT he 1 rfl
        refine zP hf rfl (pFA lN rfl) fun a hf=>zD θ he hi hf 5 rfl rfl rfl hc
       ·intro E θ a w hD hi hp he hc
        have e2:=hp.o 2 rfl
        have hf:=he.h0.mP he 5 rfl e2
        refine zL hf hc aU m1 rfl fun a w hf hc=>zD θ he hi hf 6 rfl rfl rfl hc
       ·intro E θ a w hD hi hp he hc
        have e1:=hp.o 1 rfl
        have e3:=hp.o 3 rfl
        have hf:=(he.h0.mP he 4 rfl e1).mP he 6 rfl e3
        refine zP hf rfl (aD5 rfl rfl (nC c0)) fun a hf=>zD θ he hi hf 7 rfl rfl rfl hc
       ·intro E θ a w hD hi hp he hc
        have hf:=he.h0.mT he 2 rfl
        refine zP hf rfl (pFA qD rfl) fun a hf=>zD θ he hi hf 8 rfl rfl rfl hc
       ·intro E θ a w hD hi hp he hc
        have e5:=hp.o 5 rfl
        have hf:=he.h0.mP he 8 rfl e5
        refine zL hf hc aU m0 rfl fun a w hf hc=>zD θ he hi hf 9 rfl rfl rfl hc
       ·intro E θ a w hD hi hp he hc
        have hf:=he.h0.mT he 2 rfl
        refine zP hf rfl (pFA lN rfl) fun a hf=>zD θ he hi hf 10 rfl rfl rfl hc
       ·intro E θ a w hD hi hp he hc
        have e7:=hp.o 7 rfl
        have hf:=he.h0.mP he 10 rfl e7
        refine zL hf hc aU m0 rfl fun a w hf hc=>zD θ he hi hf 11 rfl rfl rfl hc
       ·intro E θ a w hD hi hp he hc
        have e6:=hp.o 6 rfl
        have e8:=hp.o 8 rfl
        have hf:=(he.h0.mP he 9 rfl e6).mP he 11 rfl e8
        refine sp 1 hf rfl fun a hf=>zD θ he hi hf 12 rfl rfl rfl hc
       ·intro E θ a w hD hi hp he hc
        have e9:=hp.o 9 rfl
        have hf:=he.h0.mP he 12 rfl e9
        refine sp 1 hf rfl fun a hf=>zD θ he hi hf 13 rfl rfl rfl hc
       ·intro E θ a w hD hi hp he hc
        have hf:=he.h0.mT he 2 rfl
        refine zP hf rfl (pFA lN rfl) fun a hf=>zD θ he hi hf 14 rfl rfl rfl hc
       ·intro E θ a w hD hi hp he hc
        have bb:=hp.o 11 rfl
        have hf:=he.h0.mP he 14 rfl bb
        refine zL hf hc aU m0 rfl fun a w hf hc=>zD θ he hi hf 15 rfl rfl rfl hc
       ·intro E θ a w hD hi hp he hc
        have a2:=hp.o 10 rfl
        have a5:=hp.o 12 rfl
        have hf:=(he.h0.mP he 13 rfl a2).mP he 15 rfl a5
        refine zP hf rfl (aD5 rfl rfl (nC bk)) fun a hf=>zD θ he hi hf 16 rfl rfl rfl hc
       ·intro E θ a w hD hi hp he hc
        have e4:=hp.o 4 rfl
        have bf:=hp.o 13 rfl
        have hf:=(he.h0.mP he 7 rfl e4).mP he 16 rfl bf
        refine zP hf rfl (bH (cells:=[i6 (W (R.N.tdiv R.D)),i6 (W ((W ((W (M.N + M.D)) - 1)).tdiv M.D))]) iY rfl rfl) fun a hf=>zD θ he hi hf 17 rfl rfl rfl hc
       ·intro E θ a w hD hi hp he hc
        have a4:=hp.o 14 rfl
        try dsimp only at hc
        rw [hi] at hc
        have hf:=(he.h0.mT he 0 rfl).mP he 17 rfl a4
        refine zW hf hc cA u5 rfl fun w hc=>zG θ he hi hf rfl ?_
        try dsimp only
        rw [aR E 15]
        exact hc
       ·intro E θ a w hD hi hp he hc
        have hf:=he.h0
        refine sp 1 hf rfl fun a hf=>zD θ he hi hf 18 rfl rfl rfl hc
       ·intro E θ a w q he hc
        have hf:=he.h0
        have bc:=q 15 rfl
        have bi:=q 16 rfl
        replace hf:=hf.more he 18 rfl (onP bi)
        replace hf:=hf.more he 0 rfl (onT)
        try dsimp only at hc
        rw [bc] at hc
        exact ⟨hf.kp rfl,hc⟩
       rintro a w ⟨hf,hc⟩
       refine cf _ _ ?_
       refine wp_ret ?_
       obtain rfl:=sj hF
       replace hc:=(((((hc.drop k6).drop k4).drop k3).drop k2).drop k1).drop k0
       exact nQ (by simp) rfl Tryz.results10 hf hc (cR (vs:=[i6 (W (R.N.tdiv R.D)),i6 (W ((W ((W (M.N + M.D)) - 1)).tdiv M.D))]) eA rfl rfl (bO (n:=2) m0 rfl)) (show dG _ 9=_ from rfl) ⟨rfl,(hc.drop k0)⟩
     refine zS fun K h=>sp 2 hf rfl fun a hf=>zE hf hc rfl (eLkOk (enc:=(Value.int .i64)) (z0:=0) (m:=d) m0 Tryz.underlying85 Tryz.underlying3 aAr rfl rfl) fun a w hf hc=>sp 5 hf rfl fun a hf=>zT h ?_
     refine zS fun K h=>sp 2 hf rfl fun a hf=>zT h ?_
     refine zI hf rfl hF ?_ ?_ <;> clear hF <;> intro hF
     ·refine dE ?_
      refine sp 1 hf rfl fun a hf=>?_
      obtain ⟨cy,bs,hF⟩:=aB hF
      obtain ⟨G1,bq,ax,hc,ay⟩:=lend hc k1
      refine zC hf aK8 rfl (iD aj.1 ax hc bs) ?_
      rintro _ w ⟨df,dc,rfl,hc⟩
      refine ⟨_,rfl,fun a hf=>?_⟩
      replace hc:=ay _ _ hc
      refine sp 1 hf rfl fun a hf=>zP hf rfl (bH (cells:=[i6 (-300),i6 300]) iY rfl rfl) fun a hf=>mY (rows:=([(⟨(-300),300⟩:aA)]:List aA).map aC) (vs:=[(0,.agg #[i6 (-300),i6 300])]) hf hc rfl rfl tR rfl ⟨rfl,rfl,rfl,trivial⟩ rfl rfl fun c8 a w hf hc=>?_
      obtain ⟨cn,b4,hF⟩:=aB hF
      refine zC hf en_29 rfl (lX cy O ([(⟨(-300),300⟩:aA)]:List aA) ((hc.pick k0).pick k2) b4) ?_
      rintro _ w ⟨cp,cq,rfl,hc⟩
      refine ⟨_,rfl,fun a hf=>?_⟩
      refine sp 1 hf rfl fun a hf=>aP ?_
      replace hc:=((hc.drop k4).drop k2).drop k1
      exact a3 cn cp cq _ _  (hf.kp rfl) hc hF
     ·refine wp_skip ?_
      replace hc:=((hc.drop k2).pick k0).pick k1
      exact a3 aj.1 ar aq _ _  (hf.kp rfl) hc hF
    have c6:∀ r,a8=.out r→r=ab:=by
     rintro r rfl
     exact sj hF
    refine dO N (dH (S:=S29) (x:=a8) ?_ N (0,0,(fun _=>none:Int→Option Int)) _ _ ⟨hf.kp rfl,hc⟩ bn)
    clear hF hf hc
    rintro ⟨O,y,d⟩ cc a w KB29 ⟨hf,hc⟩ hF av bp
    unfold fR at hF
    refine zS fun K h=>sp 1 hf rfl fun a hf=>zT h ?_
    refine wp_seq_k fun K41 cg=>zI hf rfl hF ?_ ?_ <;> clear hF <;> intro hF
    ·refine wp_skip ?_
     refine cg _ _ ?_
     refine wp_seq_k fun K42 ct=>?_
     have ba:∀ (p:Int) (an:Int→Option Int) a w,Has 130 a [(1,i6 most),(2,i6 day),(3,i6 at_),(4,pq V),(8,pq U),(10,pq ai),(12,.map (some Z)),(13,i6 p),(50,.slice H r.Gaugings.length B),(51,i6 ((r.Gaugings.length:Nat):Int)),(52,i6 y)]→Ctx G (.im Z (fun j=>(an j).map (Value.int .i64)) none::.row ar aq (aj.1.map aC) 41 2::.box ai [.slice J r.Rating.length I,.slice H r.Gaugings.length B,.slice ar aj.1.length aq] 75::.box U [i6 0,i6 0] 41::.box V [.slice J r.Rating.length I,.slice H r.Gaugings.length B] 26::Lf) w→jA N y p an=some cc→K42 a w:=by
      repeat (clear hF)
      repeat (clear hc)
      repeat (clear hf)
      intro p an a w hf hc hF
      unfold jA at hF
      refine ct _ _ ?_
      refine dE ?_
      refine sp 2 hf rfl fun a hf=>aP ?_
      exact bp (p,W (y + 1),an) _ _ (sj hF).symm ⟨hf.kp rfl,hc⟩
     refine wp_block ?_
     refine zS fun K h=>sp 1 hf rfl fun a hf=>?_
     obtain ⟨ag,b9,hF⟩:=aB hF
     obtain ⟨c9,da,br,b1⟩:=X.atm b9
     refine zP hf rfl (pIA Tryz.underlying24 rK rfl rfl br) fun a hf=>zE hf hc rfl (jM (vs:=[i6 ag.Day,i6 ag.Stage,i6 ag.Flow.Lo,i6 ag.Flow.Hi]) yS rfl rfl (cI b1 (n:=4) (o':=0) rfl)) fun a w hf hc=>zA hf hc aEg rfl fun c5 a w hf hc=>sp 1 hf rfl fun a hf=>zW hf hc rK u0 rfl fun w hc=>zT h ?_
     refine zS fun K h=>sp 1 hf rfl fun a hf=>zP hf rfl (pFA oP rfl) fun a hf=>zL hf hc aU m0 rfl fun a w hf hc=>sp 1 hf rfl fun a hf=>stMU (enc:=(Value.int .i64)) (m:=d) (v:=y) hf hc rfl Tryz.underlying85 Tryz.underlying3 rfl rfl rfl u1 fun w hc=>zT h ?_
     refine zS fun K h=>zP hf rfl (pFA oP rfl) fun a hf=>zL hf hc aU m0 rfl fun a w hf hc=>sp 2 hf rfl fun a hf=>zT h ?_
     refine zI hf rfl hF ?_ ?_ <;> clear hF <;> intro hF
     ·refine dE ?_
      refine sp 3 hf rfl fun a hf=>aP ?_
      replace hc:=hc.drop k0
      exact ba (W (y + 1)) (wL d ag.Day y) _ _  (hf.kp rfl) hc hF
     ·refine wp_skip ?_
      replace hc:=hc.drop k0
      exact ba O (wL d ag.Day y) _ _  (hf.kp rfl) hc hF
    ·refine wp_exit ?_
     refine aV ?_
     refine aV ?_
     have he:=sj hF
     rw [← he] at av
     refine eW ?_
     exact bu _ _ _ av ⟨hf.kp rfl,hc⟩

def nZ (N:Nat) (lo:Int) (B:Int):Option (aA) :=
 some (⟨lo,B⟩:aA)
theorem rS {N:Nat} {G:aS} {Lf:List Ent} {w:World} (lo:Int) (B:Int)   (hc:Ctx G (Lf) w) {D:aA} (hF:nZ N lo B=some D):Calls Tryz.prog 32 #[i6 lo,i6 B] w (fun e w=>e=.returned (.agg #[i6 D.Lo,i6 D.Hi])∧Ctx G (Lf) w):=by
 unfold nZ at hF
 refine cB Tryz.func32 rfl Tryz.ntmps32 rfl fun a hf=>zS fun K h=>zA hf hc kX rfl fun H a w hf hc=>zT h ?_
 refine zS fun K h=>sp 2 hf rfl fun a hf=>zP hf rfl (bH (cells:=[i6 lo,i6 B]) iY rfl rfl) fun a hf=>zW hf hc cA u0 rfl fun w hc=>zT h ?_
 refine wp_ret ?_
 obtain rfl:=sj hF
 exact pH (by simp) rfl Tryz.results32 hf hc (cR (vs:=[i6 lo,i6 B]) eA rfl rfl (bO (n:=2) m0 rfl)) ⟨rfl,(hc.drop k0)⟩

def mM (N:Nat) (lo:Int) (B:Int):Option (aK) :=
 Option.bind (nZ N lo B) fun r=>
 some (⟨true,r⟩:aK)
theorem qU {N:Nat} {G:aS} {Lf:List Ent} {w:World} (lo:Int) (D:Int)   (hc:Ctx G (Lf) w) {B:aK} (hF:mM N lo D=some B):Calls Tryz.prog 11 #[i6 lo,i6 D] w (fun e w=>e=.returned (.agg #[.bool B.Known,i6 B.Flow.Lo,i6 B.Flow.Hi])∧Ctx G (Lf) w):=by
 unfold mM at hF
 refine cB Tryz.func11 rfl Tryz.ntmps11 rfl fun a hf=>zS fun K h=>zA hf hc aEd rfl fun H a w hf hc=>zT h ?_
 refine zS fun K h=>sp 2 hf rfl fun a hf=>?_
 obtain ⟨r,hr,hF⟩:=aB hF
 refine zQ (v:=.agg #[i6 r.Lo,i6 r.Hi]) hf hc aH7 rfl (fun w hc=>rS lo D hc hr) fun a w hf hc=>zP hf rfl (bH (cells:=[.bool true,i6 r.Lo,i6 r.Hi]) aIg rfl rfl) fun a hf=>zW hf hc vV u0 rfl fun w hc=>zT h ?_
 refine wp_ret ?_
 obtain rfl:=sj hF
 exact pH (by simp) rfl Tryz.results11 hf hc (cR (vs:=[.bool true,i6 r.Lo,i6 r.Hi]) uN rfl rfl (bO (n:=3) m0 rfl)) ⟨rfl,(hc.drop k0)⟩

def bL (n:Int) (D:Int) (B:Int):Bool :=
 ((decide (D≤n)) && (decide (n≤B)))
theorem gN {G:aS} {Lf:List Ent} {w:World} (n:Int) (B:Int) (D:Int)   (hc:Ctx G (Lf) w) {H:Bool} (hF:bL n B D=H):Calls Tryz.prog 35 #[i6 n,i6 B,i6 D] w (fun e w=>e=.returned (.bool H)∧Ctx G (Lf) w):=by
 unfold bL at hF
 refine cB Tryz.func35 rfl Tryz.ntmps35 rfl fun a hf=>zS fun K h=>sp 1 hf rfl fun a hf=>zT h ?_
 refine zS fun K h=>sp 4 hf rfl fun a hf=>hY 4 (fun a=>Has 15 a [(0,i6 n),(1,i6 B),(2,i6 D),(6,.bool false),(7,i6 n),(8,i6 B),(9,.bool (decide (B≤n))),(10,.bool (decide (B≤n))),(14,.bool ((decide (B≤n)) && (decide (n≤D))))]) hc ?_ ?_
 ·cases hb:(decide (B≤n))
  ·rw [hb] at hf
   refine stS hf rfl rfl rfl fun a hf=>stS hf rfl rfl rfl fun a hf=>stS hf rfl rfl rfl fun a hf=>sp 1 hf rfl fun a hf=>aP ⟨hf.kp rfl,hc⟩
  ·rw [hb] at hf
   refine sp 4 hf rfl fun a hf=>aP ⟨hf.kp rfl,hc⟩
 intro a w ⟨hf,hc⟩
 refine sp 1 hf rfl fun a hf=>zT h ?_
 refine wp_ret ?_
 obtain rfl:=hF
 exact zO1 Tryz.results35 hf rfl ⟨rfl,hc⟩

def bF (n:Int):Bool :=
 (bL n 0 1000000000)
theorem oR {G:aS} {Lf:List Ent} {w:World} (n:Int)   (hc:Ctx G (Lf) w) {B:Bool} (hF:bF n=B):Calls Tryz.prog 40 #[i6 n] w (fun e w=>e=.returned (.bool B)∧Ctx G (Lf) w):=by
 unfold bF at hF
 refine cB Tryz.func40 rfl Tryz.ntmps40 rfl fun a hf=>zS fun K h=>sp 1 hf rfl fun a hf=>zT h ?_
 refine zS fun K h=>sp 1 hf rfl fun a hf=>zQ (v:=.bool (bL n 0 1000000000)) hf hc vE rfl (fun w hc=>gN n 0 1000000000 hc rfl) fun a w hf hc=>sp 1 hf rfl fun a hf=>zT h ?_
 refine wp_ret ?_
 obtain rfl:=hF
 exact zO1 Tryz.results40 hf rfl ⟨rfl,hc⟩

def jZ (s_:aA):Bool :=
 ((bL s_.Lo 0 s_.Hi) && (bF s_.Hi))
theorem uC {G:aS} {Lf:List Ent} {w:World} (s_:aA)   (hc:Ctx G (Lf) w) {D:Bool} (hF:jZ s_=D):Calls Tryz.prog 69 #[.agg #[i6 s_.Lo,i6 s_.Hi]] w (fun e w=>e=.returned (.bool D)∧Ctx G (Lf) w):=by
 unfold jZ at hF
 refine cB Tryz.func69 rfl Tryz.ntmps69 rfl fun a hf=>zS fun K h=>zB hf hc rfl fun B a w hf hc=>sp 1 hf rfl fun a hf=>zT h ?_
 refine zS fun K h=>zP hf rfl (pFA dS rfl) fun a hf=>zL hf hc aU m0 rfl fun a w hf hc=>zP hf rfl (pFA dC rfl) fun a hf=>zL hf hc aU m0 rfl fun a w hf hc=>zQ (v:=.bool (bL s_.Lo 0 s_.Hi)) hf hc vE rfl (fun w hc=>gN s_.Lo 0 s_.Hi hc rfl) fun a w hf hc=>sp 1 hf rfl fun a hf=>hY 4 (fun a=>Has 13 a [(1,pq B),(2,.bool false),(3,pq B),(4,i6 s_.Lo),(5,.pointer (some ⟨B,1,none⟩)),(6,i6 s_.Hi),(7,.bool (bL s_.Lo 0 s_.Hi)),(8,.bool (bL s_.Lo 0 s_.Hi)),(12,.bool ((bL s_.Lo 0 s_.Hi) && (bF s_.Hi)))]) hc ?_ ?_
 ·cases hb:(bL s_.Lo 0 s_.Hi)
  ·rw [hb] at hf
   refine stS hf rfl rfl rfl fun a hf=>stS hf rfl rfl rfl fun a hf=>stS hf rfl rfl rfl fun a hf=>sp 1 hf rfl fun a hf=>aP ⟨hf.kp rfl,hc⟩
  ·rw [hb] at hf
   refine zP hf rfl (pFA dC rfl) fun a hf=>zL hf hc aU m0 rfl fun a w hf hc=>zQ (v:=.bool (bF s_.Hi)) hf hc aFv rfl (fun w hc=>oR s_.Hi hc rfl) fun a w hf hc=>sp 1 hf rfl fun a hf=>aP ⟨hf.kp rfl,hc⟩
 intro a w ⟨hf,hc⟩
 refine sp 1 hf rfl fun a hf=>zT h ?_
 refine wp_ret ?_
 obtain rfl:=hF
 replace hc:=hc.drop k0
 exact zO1 Tryz.results69 hf rfl ⟨rfl,hc⟩

def fL (v:aK):Bool :=
 ((!v.Known) || (jZ v.Flow))
theorem xW {G:aS} {Lf:List Ent} {w:World} (v:aK)   (hc:Ctx G (Lf) w) {B:Bool} (hF:fL v=B):Calls Tryz.prog 68 #[.agg #[.bool v.Known,i6 v.Flow.Lo,i6 v.Flow.Hi]] w (fun e w=>e=.returned (.bool B)∧Ctx G (Lf) w):=by
 unfold fL at hF
 refine cB Tryz.func68 rfl Tryz.ntmps68 rfl fun a hf=>zS fun K h=>zB hf hc rfl fun D a w hf hc=>sp 1 hf rfl fun a hf=>zT h ?_
 refine zS fun K h=>zP hf rfl (pFA aGo rfl) fun a hf=>zL hf hc sc_4 m0 rfl fun a w hf hc=>sp 2 hf rfl fun a hf=>hY 4 (fun a=>Has 11 a [(1,pq D),(2,.bool false),(3,pq D),(4,.bool v.Known),(5,.bool (!v.Known)),(6,.bool (!v.Known)),(10,.bool ((!v.Known) || (jZ v.Flow)))]) hc ?_ ?_
 ·cases hb:(!v.Known)
  ·rw [hb] at hf
   refine zP hf rfl (pFA aGe rfl) fun a hf=>zN hf hc eA m0 rfl fun a w hf hc=>zQ (v:=.bool (jZ v.Flow)) hf hc aKd rfl (fun w hc=>uC v.Flow hc rfl) fun a w hf hc=>sp 1 hf rfl fun a hf=>aP ⟨hf.kp rfl,hc⟩
  ·rw [hb] at hf
   refine stS hf rfl rfl rfl fun a hf=>stS hf rfl rfl rfl fun a hf=>stS hf rfl rfl rfl fun a hf=>sp 1 hf rfl fun a hf=>aP ⟨hf.kp rfl,hc⟩
 intro a w ⟨hf,hc⟩
 refine sp 1 hf rfl fun a hf=>zT h ?_
 refine wp_ret ?_
 obtain rfl:=hF
 replace hc:=hc.drop k0
 exact zO1 Tryz.results68 hf rfl ⟨rfl,hc⟩

def eH (x:aK):Bool :=
 (!(fL x))
theorem pR {G:aS} {Lf:List Ent} {w:World} (x:aK) {b_:Nat}  (hc:Ctx G (.box b_ [.func (.func 68) #[] #[]] 139::Lf) w) {B:Bool} (hF:eH x=B):Calls Tryz.prog 94 #[.agg #[.bool x.Known,i6 x.Flow.Lo,i6 x.Flow.Hi],pq b_] w (fun e w=>e=.returned (.bool B)∧Ctx G (.box b_ [.func (.func 68) #[] #[]] 139::Lf) w):=by
 unfold eH at hF
 refine cB Tryz.func94 rfl Tryz.ntmps94 rfl fun a hf=>zS fun K h=>zB hf hc rfl fun D a w hf hc=>sp 1 hf rfl fun a hf=>zT h ?_
 refine zS fun K h=>zL hf hc aL9 m1 rfl fun a w hf hc=>zN hf hc uN m0 rfl fun a w hf hc=>zQ (v:=.bool (fL x)) hf hc en_68 rfl (fun w hc=>xW x hc rfl) fun a w hf hc=>sp 2 hf rfl fun a hf=>zT h ?_
 refine wp_ret ?_
 obtain rfl:=hF
 replace hc:=hc.drop k0
 exact zO1 Tryz.results94 hf rfl ⟨rfl,hc⟩

def fD (N:Nat) (s_:List aK) (x:Int):Option (cY (Int) (Int)) :=
 cond (decide (x < ((s_.length:Nat):Int)))
 (Option.bind (bG s_ x) fun B=>
 cond (eH B)
 (some (.ret x))
 (some (.cont (W (x + 1)))))
 (some (.brk x))
def cG (N:Nat) (s_:List aK):Option (Int) :=
 Option.bind (bE (fun s4=>fD N s_ s4) N 0) fun x4=>
 exK x4 (fun s4=>some (-1)) some
theorem jT {N:Nat} {G:aS} {Lf:List Ent} {w:World} (s_:List aK) {H:Option Addr} {I:Nat} {b_:Nat} (M:Rd G 3 H I (s_.map aJ)) (hc:Ctx G (.box b_ [.func (.func 68) #[] #[]] 139::Lf) w) {J:Int} (hF:cG N s_=some J):Calls Tryz.prog 107 #[.slice H s_.length I,.func (.func 94) #[] #[pq b_]] w (fun e w=>e=.returned (i6 J)∧Ctx G (.box b_ [.func (.func 68) #[] #[]] 139::Lf) w):=by
 unfold cG at hF
 refine cB Tryz.func107 rfl Tryz.ntmps107 rfl fun a hf=>zS fun K h=>sp 1 hf rfl fun a hf=>zT h ?_
 refine wp_seq_k fun K2 h2=>zS fun K h=>sp 1 hf rfl fun a hf=>zP hf rfl (bM Tryz.underlying37 rfl) fun a hf=>sp 1 hf rfl fun a hf=>zT h ?_
 refine wp_block ?_
 obtain ⟨x4,U,hF⟩:=aB hF
 let S4:Int→Act→World→Prop:=(fun (zz:Int) a w=>Has 19 a [(0,.slice H s_.length I),(1,.func (.func 94) #[] #[pq b_]),(7,i6 ((s_.length:Nat):Int)),(8,i6 zz)]∧Ctx G (.box b_ [.func (.func 68) #[] #[]] 139::Lf) w)
 have V:∀ (zz:Int) a w,x4=.go zz→S4 zz a w→K2 a w:=by
  rintro x a w rfl ⟨hf,hc⟩
  replace hF:=bW hF
  refine h2 _ _ ?_
  refine zS fun K h=>sp 1 hf rfl fun a hf=>zT h ?_
  refine wp_ret ?_
  obtain rfl:=sj hF
  exact zO1 Tryz.results107 hf rfl ⟨rfl,hc⟩
 have R:∀ r,x4=.out r→r=J:=by
  rintro r rfl
  exact sj hF
 refine dO N (dH (S:=S4) (x:=x4) ?_ N 0 _ _ ⟨hf.kp rfl,hc⟩ U)
 clear hF hf hc
 rintro x Y a w KB4 ⟨hf,hc⟩ hF B X
 unfold fD at hF
 refine zS fun K h=>sp 1 hf rfl fun a hf=>zT h ?_
 refine wp_seq_k fun K7 h7=>zI hf rfl hF ?_ ?_ <;> clear hF <;> intro hF
 ·refine wp_skip ?_
  refine h7 _ _ ?_
  refine wp_seq_k fun K8 h8=>wp_block ?_
  refine zS fun K h=>sp 2 hf rfl fun a hf=>zT h ?_
  refine zS fun K h=>sp 3 hf rfl fun a hf=>?_
  obtain ⟨D,O,hF⟩:=aB hF
  obtain ⟨Z,o,qa,qp⟩:=M.atm O
  refine zP hf rfl (pIA Tryz.underlying37 vV rfl rfl qa) fun a hf=>zE hf hc rfl (jM (vs:=[.bool D.Known,i6 D.Flow.Lo,i6 D.Flow.Hi]) uN rfl rfl (cI qp (n:=3) (o':=0) rfl)) fun a w hf hc=>zQ (v:=.bool (eH D)) hf hc en_94 rfl (fun w hc=>(pR D (hc.pick k0) rfl).mono fun e w h=>⟨h.1,(h.2.unpick k0)⟩) fun a w hf hc=>zT h ?_
  refine zI hf rfl hF ?_ ?_ <;> clear hF <;> intro hF
  ·refine zS fun K h=>sp 2 hf rfl fun a hf=>zT h ?_
   refine wp_ret ?_
   refine bU ?_
   refine aO ?_
   refine aO ?_
   have he:=sj hF
   rw [← he] at B
   replace hF:=R _ B
   refine bU ?_
   refine aO ?_
   obtain rfl:=hF
   exact zO1 Tryz.results107 hf rfl ⟨rfl,hc⟩
  ·refine wp_skip ?_
   refine h8 _ _ ?_
   refine dE ?_
   refine sp 2 hf rfl fun a hf=>aP ?_
   exact X (W (x + 1)) _ _ (sj hF).symm ⟨hf.kp rfl,hc⟩
 ·refine wp_exit ?_
  refine aV ?_
  refine aV ?_
  have he:=sj hF
  rw [← he] at B
  refine eW ?_
  exact V _ _ _ B ⟨hf.kp rfl,hc⟩

def bY (N:Nat) (s_:List aK):Option (Bool) :=
 Option.bind (cG N s_) fun r=>
 some (decide (0≤r))
theorem iV {N:Nat} {G:aS} {Lf:List Ent} {w:World} (s_:List aK) {D:Option Addr} {B:Nat} {b_:Nat} (I:Rd G 3 D B (s_.map aJ)) (hc:Ctx G (.box b_ [.func (.func 68) #[] #[]] 139::Lf) w) {H:Bool} (hF:bY N s_=some H):Calls Tryz.prog 93 #[.slice D s_.length B,.func (.func 94) #[] #[pq b_]] w (fun e w=>e=.returned (.bool H)∧Ctx G (.box b_ [.func (.func 68) #[] #[]] 139::Lf) w):=by
 unfold bY at hF
 refine cB Tryz.func93 rfl Tryz.ntmps93 rfl fun a hf=>zS fun K h=>sp 1 hf rfl fun a hf=>zT h ?_
 refine zS fun K h=>sp 2 hf rfl fun a hf=>?_
 obtain ⟨r,hr,hF⟩:=aB hF
 refine zQ (v:=i6 r) hf hc aLo rfl (fun w hc=>(jT s_ I (hc.pick k0) hr).mono fun e w h=>⟨h.1,(h.2.unpick k0)⟩) fun a w hf hc=>sp 2 hf rfl fun a hf=>zT h ?_
 refine wp_ret ?_
 obtain rfl:=sj hF
 exact zO1 Tryz.results93 hf rfl ⟨rfl,hc⟩

def fG (N:Nat) (l:List aK):Option (Bool) :=
 Option.bind (bY N l) fun r=>
 some (!r)
theorem qG {N:Nat} {G:aS} {Lf:List Ent} {w:World} (l:List aK) {H:Option Addr} {B:Nat} (I:Rd G 3 H B (l.map aJ)) (hc:Ctx G (Lf) w) {D:Bool} (hF:fG N l=some D):Calls Tryz.prog 67 #[.slice H l.length B,.func (.func 68) #[] #[]] w (fun e w=>e=.returned (.bool D)∧Ctx G (Lf) w):=by
 unfold fG at hF
 refine cB Tryz.func67 rfl Tryz.ntmps67 rfl fun a hf=>zS fun K h=>zB hf hc rfl fun J a w hf hc=>sp 1 hf rfl fun a hf=>zT h ?_
 refine zS fun K h=>sp 1 hf rfl fun a hf=>zP hf rfl (pMF (us:=[pq J]) rfl rfl) fun a hf=>?_
 obtain ⟨r,hr,hF⟩:=aB hF
 refine zQ (v:=.bool r) hf hc en_93 rfl (fun w hc=>(iV l I (hc.pick k0) hr).mono fun e w h=>⟨h.1,(h.2.unpick k0)⟩) fun a w hf hc=>sp 2 hf rfl fun a hf=>zT h ?_
 refine wp_ret ?_
 obtain rfl:=sj hF
 replace hc:=hc.drop k0
 exact zO1 Tryz.results67 hf rfl ⟨rfl,hc⟩

def iU (N:Nat) (r:aF):Option (Int) :=
 cond (!(bL ((r.Days.length:Nat):Int) 1 60))
 (some 3)
 (Option.bind (cond ((!(bF r.Rise)) || (!(bF r.Fall))) (some true) (Option.bind (fG N r.Days) fun D=>
 some (!D))) fun B=>
 cond B
 (some 80)
 (some 0))
theorem lJ {N:Nat} {G:aS} {Lf:List Ent} {w:World} (r:aF) {D:Option Addr} {B:Nat} (H:Rd G 3 D B (r.Days.map aJ)) (hc:Ctx G (Lf) w) {M:Int} (hF:iU N r=some M):Calls Tryz.prog 34 #[.agg #[i6 r.Rise,i6 r.Fall,.slice D r.Days.length B]] w (fun e w=>e=.returned (i6 M)∧Ctx G (Lf) w):=by
 unfold iU at hF
 refine cB Tryz.func34 rfl Tryz.ntmps34 rfl fun a hf=>zS fun K h=>zB hf hc rfl fun I a w hf hc=>sp 1 hf rfl fun a hf=>zT h ?_
 refine wp_seq_k fun K2 h2=>wp_block ?_
 refine zS fun K h=>zP hf rfl (pFA kZ rfl) fun a hf=>zL hf hc sN m0 rfl fun a w hf hc=>zP hf rfl (bM Tryz.underlying37 rfl) fun a hf=>zQ (v:=.bool (bL ((r.Days.length:Nat):Int) 1 60)) hf hc vE rfl (fun w hc=>gN ((r.Days.length:Nat):Int) 1 60 hc rfl) fun a w hf hc=>sp 2 hf rfl fun a hf=>zT h ?_
 refine zI hf rfl hF ?_ ?_ <;> clear hF <;> intro hF
 ·refine zS fun K h=>sp 1 hf rfl fun a hf=>zT h ?_
  refine wp_ret ?_
  refine bU ?_
  refine aO ?_
  obtain rfl:=sj hF
  replace hc:=hc.drop k0
  exact zO1 Tryz.results34 hf rfl ⟨rfl,hc⟩
 ·refine zS fun K h=>zP hf rfl (pFA sV rfl) fun a hf=>zL hf hc aU m0 rfl fun a w hf hc=>zQ (v:=.bool (bF r.Rise)) hf hc aFv rfl (fun w hc=>oR r.Rise hc rfl) fun a w hf hc=>sp 2 hf rfl fun a hf=>hY 5 (fun a=>Has 26 a [(1,pq I),(10,pq I),(11,i6 r.Rise),(12,.bool (bF r.Rise)),(13,.bool (!(bF r.Rise))),(14,.bool (!(bF r.Rise))),(19,.bool ((!(bF r.Rise)) || (!(bF r.Fall))))]) hc ?_ ?_
  ·cases hb:(!(bF r.Rise))
   ·rw [hb] at hf
    refine zP hf rfl (pFA tF rfl) fun a hf=>zL hf hc aU m0 rfl fun a w hf hc=>zQ (v:=.bool (bF r.Fall)) hf hc aFv rfl (fun w hc=>oR r.Fall hc rfl) fun a w hf hc=>sp 2 hf rfl fun a hf=>aP ⟨hf.kp rfl,hc⟩
   ·rw [hb] at hf
    refine stS hf rfl rfl rfl fun a hf=>stS hf rfl rfl rfl fun a hf=>stS hf rfl rfl rfl fun a hf=>stS hf rfl rfl rfl fun a hf=>sp 1 hf rfl fun a hf=>aP ⟨hf.kp rfl,hc⟩
  intro a w ⟨hf,hc⟩
  refine sp 1 hf rfl fun a hf=>?_
  obtain ⟨R,J,hF⟩:=aB hF
  refine hY 5 (fun a=>Has 26 a [(1,pq I),(10,pq I),(11,i6 r.Rise),(12,.bool (bF r.Rise)),(13,.bool (!(bF r.Rise))),(14,.bool (!(bF r.Rise))),(19,.bool ((!(bF r.Rise)) || (!(bF r.Fall)))),(20,.bool ((!(bF r.Rise)) || (!(bF r.Fall)))),(25,.bool R)]) hc ?_ ?_
  ·cases hb:((!(bF r.Rise)) || (!(bF r.Fall)))
   ·rw [hb] at hf
    have hF:=nJ hb J
    refine zP hf rfl (pFA kZ rfl) fun a hf=>zL hf hc sN m0 rfl fun a w hf hc=>?_
    obtain ⟨S,O,hF⟩:=aB hF
    refine zQ (v:=.bool S) hf hc en_67 rfl (fun w hc=>qG r.Days H hc O) fun a w hf hc=>sp 2 hf rfl fun a hf=>?_
    obtain rfl:=sj hF
    exact aP ⟨hf.kp rfl,hc⟩
   ·rw [hb] at hf
    have hF:=lF hb J
    obtain rfl:=sj hF
    refine stS hf rfl rfl rfl fun a hf=>stS hf rfl rfl rfl fun a hf=>stS hf rfl rfl rfl fun a hf=>stS hf rfl rfl rfl fun a hf=>sp 1 hf rfl fun a hf=>aP ⟨hf.kp rfl,hc⟩
  intro a w ⟨hf,hc⟩
  refine sp 1 hf rfl fun a hf=>zT h ?_
  refine zI hf rfl hF ?_ ?_ <;> clear hF <;> intro hF
  ·refine zS fun K h=>sp 1 hf rfl fun a hf=>zT h ?_
   refine wp_ret ?_
   refine bU ?_
   refine aO ?_
   obtain rfl:=sj hF
   replace hc:=hc.drop k0
   exact zO1 Tryz.results34 hf rfl ⟨rfl,hc⟩
  ·refine wp_skip ?_
   refine h2 _ _ ?_
   refine zS fun K h=>sp 1 hf rfl fun a hf=>zT h ?_
   refine wp_ret ?_
   obtain rfl:=sj hF
   replace hc:=hc.drop k0
   exact zO1 Tryz.results34 hf rfl ⟨rfl,hc⟩

def fF (N:Nat) (v:aK):Option (aA) :=
 cond v.Known
 (some v.Flow)
 (some (⟨0,1000000000⟩:aA))
theorem jO {N:Nat} {G:aS} {Lf:List Ent} {w:World} (v:aK)   (hc:Ctx G (Lf) w) {B:aA} (hF:fF N v=some B):Calls Tryz.prog 41 #[.agg #[.bool v.Known,i6 v.Flow.Lo,i6 v.Flow.Hi]] w (fun e w=>e=.returned (.agg #[i6 B.Lo,i6 B.Hi])∧Ctx G (Lf) w):=by
 unfold fF at hF
 refine cB Tryz.func41 rfl Tryz.ntmps41 rfl fun a hf=>zS fun K h=>zB hf hc rfl fun D a w hf hc=>zA hf hc kX rfl fun H a w hf hc=>zT h ?_
 refine wp_seq_k fun K2 h2=>zS fun K h=>zP hf rfl (pFA aGo rfl) fun a hf=>zL hf hc sc_4 m1 rfl fun a w hf hc=>zT h ?_
 refine zI hf rfl hF ?_ ?_ <;> clear hF <;> intro hF
 ·refine zS fun K h=>zP hf rfl (pFA aGe rfl) fun a hf=>zN hf hc eA m1 rfl fun a w hf hc=>zW hf hc cA u0 rfl fun w hc=>zT h ?_
  refine wp_ret ?_
  refine aO ?_
  obtain rfl:=sj hF
  replace hc:=hc.drop k1
  exact pH (by simp) rfl Tryz.results41 hf hc (cR (vs:=[i6 v.Flow.Lo,i6 v.Flow.Hi]) eA rfl rfl (bO (n:=2) m0 rfl)) ⟨rfl,(hc.drop k0)⟩
 ·refine wp_skip ?_
  refine h2 _ _ ?_
  refine zS fun K h=>zP hf rfl (bH (cells:=[i6 0,i6 1000000000]) iY rfl rfl) fun a hf=>zW hf hc cA u0 rfl fun w hc=>zT h ?_
  refine wp_ret ?_
  obtain rfl:=sj hF
  replace hc:=hc.drop k1
  exact pH (by simp) rfl Tryz.results41 hf hc (cR (vs:=[i6 0,i6 1000000000]) eA rfl rfl (bO (n:=2) m0 rfl)) ⟨rfl,(hc.drop k0)⟩

def hO (N:Nat) (w_:iC) (B:Bool):Option (Bool) :=
 some B
theorem pU {N:Nat} {G:aS} {Lf:List Ent} {w:World} (w_:iC) (M:Bool) {b_:Nat} {B:Option Addr} {D:Nat} {I:Option Addr} {H:Nat} (J:Rd G 3 B D (w_.Record.Days.map aJ)) (O:Rd G 2 I H (w_.spans.map aC)) (hc:Ctx G (.box b_ [i6 w_.Record.Rise,i6 w_.Record.Fall,.slice B w_.Record.Days.length D,.slice I w_.spans.length H] 95::Lf) w) {U:Bool} (hF:hO N w_ M=some U):Calls Tryz.prog 91 #[pq b_,.bool M] w (fun e w=>∃ (V:Nat) (S:Nat),e=.returned (.func (.func 106) #[] #[pq V,pq S])∧Ctx G (.box V [pq b_] 91::.box S [.bool U] 4::.box b_ [i6 w_.Record.Rise,i6 w_.Record.Fall,.slice B w_.Record.Days.length D,.slice I w_.spans.length H] 95::Lf) w):=by
 unfold hO at hF
 refine cB Tryz.func91 rfl Tryz.ntmps91 rfl fun a hf=>zS fun K h=>zB hf hc rfl fun R a w hf hc=>zB hf hc rfl fun X a w hf hc=>sp 1 hf rfl fun a hf=>zT h ?_
 refine zS fun K h=>zP hf rfl (pMF (us:=[pq R,pq X]) rfl rfl) fun a hf=>sp 1 hf rfl fun a hf=>zT h ?_
 refine wp_ret ?_
 obtain rfl:=sj hF
 replace hc:=(hc.pick k0).pick k1
 exact zO1 Tryz.results91 hf rfl ⟨R,X,rfl,hc⟩

def eQ (N:Nat) {σ:Type} (y:σ→(Int × Int)→Option (σ × Bool)) (D:Int) (I:Int) (H:Int) (B:σ):Option (cY (Int × σ) (σ)) :=
 Option.bind (y B (I,H)) fun ry=>
 cond (!ry.2)
 (some (.ret ry.1))
 (some (.cont (W (D + 1),ry.1)))
def bK (N:Nat) {σ:Type} (D:List aK) (H:Bool) (y:σ→(Int × Int)→Option (σ × Bool)) (B:Int) (sg:σ):Option (cY (Int × σ) (σ)) :=
 cond (decide (B < (W (((D.length:Nat):Int) - 1))))
 (cond H
 (eQ N y B (W ((W (((D.length:Nat):Int) - 1)) - B)) (W ((W (((D.length:Nat):Int) - 2)) - B)) sg)
 (eQ N y B B (W (B + 1)) sg))
 (some (.brk (B,sg)))
def dN (N:Nat) {σ:Type} (x:Int) (I:Int) (H:List aK) (D:Bool) (y:σ→(Int × Int)→Option (σ × Bool)) (B:σ):Option (σ) :=
 Option.bind (bE (fun s3=>bK N H D y s3.1 s3.2) N (0,B)) fun x3=>
 exK x3 (fun s3=>some s3.2) some
theorem nW {N:Nat} {G:aS} {Lf:List Ent} {w:World} {σ:Type} (x:Int) (Y:Int) (R:List aK) (I:Bool) {b_:Nat} {D:Nat} {M:Option Addr} {O:Nat} {U:Option Addr} {V:Nat} {X:Nat} {H:Nat} (ag:Rd G 3 M O (R.map aJ)) (J:σ→List Ent→Prop) (y:σ→(Int × Int)→Option (σ × Bool)) {l:Nat} (hy:uU Tryz.prog G l (fun x:(Int × Int)=>[i6 x.1,i6 x.2]) J y) (m:σ) {Ls0:List Ent} (n:J m Ls0) (q:∀ (o:σ) (L:List Ent),J o L→∃ A B,L=A++(.box D [i6 x,i6 Y,.slice M R.length O,.slice U V X] 95::B)) (hc:Ctx G (.box b_ [pq D] 91::.box H [.bool I] 4::(Ls0++Lf)) w) {p:σ} (hF:dN N x Y R I y m=some p):Calls Tryz.prog 106 #[.func (.yield l) #[] #[],pq b_,pq H] w (fun e w=>(∃ v,e=.returned v)∧∃ L,J p L∧Ctx G (.box b_ [pq D] 91::.box H [.bool I] 4::(L++Lf)) w):=by
 unfold dN at hF
 refine cB Tryz.func106 rfl Tryz.ntmps106 rfl fun a hf=>wp_seq_k fun K1 h1=>?_
 obtain ⟨As,Bs,i⟩:=q _ _ n
 rw [i] at hc n
 replace hc:Ctx G (.box b_ [pq D] 91::.box H [.bool I] 4::((As++(.box D [i6 x,i6 Y,.slice M R.length O,.slice U V X] 95::Bs))++Lf)) w:=hc
 replace hc:Ctx G (.box D [i6 x,i6 Y,.slice M R.length O,.slice U V X] 95::.box b_ [pq D] 91::.box H [.bool I] 4::((As++Bs)++Lf)) w:=aKe [.box b_ [pq D] 91,.box H [.bool I] 4] hc
 refine dE ?_
 refine zL hf hc nU m1 rfl fun a w hf hc=>sp 1 hf rfl fun a hf=>zP hf rfl (pFA sU rfl) fun a hf=>zP hf rfl (pFA kZ rfl) fun a hf=>zL hf hc sN m0 rfl fun a w hf hc=>zP hf rfl (bM Tryz.underlying37 rfl) fun a hf=>sp 2 hf rfl fun a hf=>aP ?_
 replace hc:Ctx G (.box b_ [pq D] 91::.box H [.bool I] 4::((As++(.box D [i6 x,i6 Y,.slice M R.length O,.slice U V X] 95::Bs))++Lf)) w:=shIn [.box b_ [pq D] 91,.box H [.bool I] 4] hc
 refine h1 _ _ ?_
 refine mA fun K2 h2=>wp_block ?_
 obtain ⟨x3,ac,hF⟩:=aB hF
 let S3:(Int × σ)→Act→World→Prop:=(fun (zz:Int × σ) a w=>∃ (Ls:List Ent),J zz.2 Ls∧Has 45 a [(0,.func (.yield l) #[] #[]),(1,pq b_),(2,pq H),(13,i6 (W (((R.length:Nat):Int) - 1))),(14,i6 zz.1)]∧Ctx G (.box b_ [pq D] 91::.box H [.bool I] 4::(Ls++Lf)) w)
 have aa:∀ (zz:Int × σ) a w,x3=.go zz→S3 zz a w→K2 a w:=by
  rintro ⟨Z,sg⟩ a w rfl ⟨Ls,hJ,hf,hc⟩
  replace hF:=bW hF
  refine h2 _ _ ?_
  obtain rfl:=sj hF
  exact wF (by simp) rfl Tryz.results106 hf ⟨⟨_,rfl⟩,Ls,hJ,hc⟩
 have ad:∀ r,x3=.out r→r=p:=by
  rintro r rfl
  exact sj hF
 refine dO N (dH (S:=S3) (x:=x3) ?_ N (0,m) _ _ ⟨(As++(.box D [i6 x,i6 Y,.slice M R.length O,.slice U V X] 95::Bs)),n,hf.kp rfl,hc⟩ ac)
 clear hF hf hc
 rintro ⟨Z,sg⟩ ab a w KB3 ⟨Ls,hJ,hf,hc⟩ hF b u
 unfold bK at hF
 refine zS fun K h=>sp 1 hf rfl fun a hf=>zT h ?_
 refine wp_seq_k fun K5 h5=>zI hf rfl hF ?_ ?_ <;> clear hF <;> intro hF
 ·refine wp_skip ?_
  refine h5 _ _ ?_
  refine wp_seq_k fun K6 h6=>wp_block ?_
  refine zS fun K h=>sp 2 hf rfl fun a hf=>zT h ?_
  refine zS fun K h=>sp 5 hf rfl fun a hf=>zT h ?_
  refine wp_seq_k fun K9 h9=>?_
  have s:∀ (d:Int) (g:Int) (j:σ) (Ls_1:List Ent) a w,J j Ls_1→Has 45 a [(0,.func (.yield l) #[] #[]),(1,pq b_),(2,pq H),(5,i6 d),(6,i6 g),(13,i6 (W (((R.length:Nat):Int) - 1))),(14,i6 Z)]→Ctx G (.box b_ [pq D] 91::.box H [.bool I] 4::(Ls_1++Lf)) w→eQ N y Z d g j=some ab→K9 a w:=by
   repeat (clear hF)
   repeat (clear hc)
   repeat (clear hf)
   intro d g j Ls_1 a w t hf hc hF
   unfold eQ at hF
   refine h9 _ _ ?_
   refine wp_seq_k fun K10 z=>?_
   obtain ⟨ry,af,hF⟩:=aB hF
   refine yReg 3 (fun a w=>Has 45 a [(0,.func (.yield l) #[] #[]),(1,pq b_),(2,pq H),(5,i6 d),(6,i6 g),(13,i6 (W (((R.length:Nat):Int) - 1))),(14,i6 Z),(39,.func (.yield l) #[] #[]),(40,i6 d),(41,i6 g)]∧Ctx G (.box b_ [pq D] 91::.box H [.bool I] 4::(Ls_1++Lf)) w) (fun _ _ h=>by obtain ⟨⟨_,h⟩,_⟩:=h; cases h) ?_ ?_
   ·refine sp 3 hf rfl fun a hf=>aP ⟨hf.kp rfl,hc⟩
   rintro a w ⟨hf,hc⟩
   refine stY (own:=[.box b_ [pq D] 91,.box H [.bool I] 4]) (v:=(d,g)) hy t af hf hc rfl rfl rfl rfl rfl rfl fun a w Ls_2 k hf hc=>?_
   replace hc:Ctx G (.box b_ [pq D] 91::.box H [.bool I] 4::(Ls_2++Lf)) w:=hc
   refine aKc (fun _ _ h=>by obtain ⟨⟨_,h⟩,_⟩:=h; cases h) ?_
   refine sp 1 hf rfl fun a hf=>aP ?_
   refine z _ _ ?_
   refine zI hf rfl hF ?_ ?_ <;> clear hF <;> intro hF
   ·refine wp_ret ?_
    refine bU ?_
    refine aO ?_
    refine aO ?_
    have he:=sj hF
    rw [← he] at b
    replace hF:=ad _ b
    refine bU ?_
    refine aO ?_
    obtain rfl:=hF
    exact wF (by simp) rfl Tryz.results106 hf ⟨⟨_,rfl⟩,Ls_2,k,hc⟩
   ·refine wp_skip ?_
    refine h6 _ _ ?_
    refine dE ?_
    refine sp 2 hf rfl fun a hf=>aP ?_
    exact u (W (Z + 1),ry.1) _ _ (sj hF).symm ⟨Ls_2,k,hf.kp rfl,hc⟩
  refine zS fun K h=>zL hf hc sc_4 m1 rfl fun a w hf hc=>zT h ?_
  refine zI hf rfl hF ?_ ?_ <;> clear hF <;> intro hF
  ·obtain ⟨As_1,Bs_1,i⟩:=q _ _ hJ
   rw [i] at hc hJ
   replace hc:Ctx G (.box b_ [pq D] 91::.box H [.bool I] 4::((As_1++(.box D [i6 x,i6 Y,.slice M R.length O,.slice U V X] 95::Bs_1))++Lf)) w:=hc
   replace hc:Ctx G (.box D [i6 x,i6 Y,.slice M R.length O,.slice U V X] 95::.box b_ [pq D] 91::.box H [.bool I] 4::((As_1++Bs_1)++Lf)) w:=aKe [.box b_ [pq D] 91,.box H [.bool I] 4] hc
   refine cQ hc aT (by kernel_rfl) ?_
   refine qE hf rfl rfl rfl (cE nU rfl (bR m1 rfl)) fun a hf=>qE hf rfl rfl rfl (Pu.ev (pNC rfl)) fun a hf=>qE hf rfl rfl rfl (Pu.ev (pFA sU rfl)) fun a hf=>qE hf rfl rfl rfl (Pu.ev (pFA kZ rfl)) fun a hf=>qE hf rfl rfl rfl (cE sN rfl (bR m0 rfl)) fun a hf=>qE hf rfl rfl rfl (Pu.ev (bM Tryz.underlying37 rfl)) fun a hf=>qE hf rfl rfl rfl (Pu.ev (aBy rfl rfl)) fun a hf=>qE hf rfl rfl rfl (Pu.ev (pM rfl)) fun a hf=>qE hf rfl rfl rfl (Pu.ev (aBy rfl rfl)) fun a hf=>qE hf rfl rfl rfl (cE nU rfl (bR m1 rfl)) fun a hf=>qE hf rfl rfl rfl (Pu.ev (pNC rfl)) fun a hf=>qE hf rfl rfl rfl (Pu.ev (pFA sU rfl)) fun a hf=>qE hf rfl rfl rfl (Pu.ev (pFA kZ rfl)) fun a hf=>?_
   refine qE hf rfl rfl rfl (cE sN rfl (bR m0 rfl)) fun a hf=>qE hf rfl rfl rfl (Pu.ev (bM Tryz.underlying37 rfl)) fun a hf=>qE hf rfl rfl rfl (Pu.ev (aBy rfl rfl)) fun a hf=>qE hf rfl rfl rfl (Pu.ev (pM rfl)) fun a hf=>qE hf rfl rfl rfl (Pu.ev (aBy rfl rfl)) fun a hf=>qE hf rfl rfl rfl (Pu.ev (pA rfl)) fun a hf=>qE hf rfl rfl rfl (Pu.ev (pA rfl)) fun a hf=>?_
   intro w hc
   replace hc:Ctx G (.box b_ [pq D] 91::.box H [.bool I] 4::((As_1++(.box D [i6 x,i6 Y,.slice M R.length O,.slice U V X] 95::Bs_1))++Lf)) w:=shIn [.box b_ [pq D] 91,.box H [.bool I] 4] hc
   exact s (W ((W (((R.length:Nat):Int) - 1)) - Z)) (W ((W (((R.length:Nat):Int) - 2)) - Z)) sg (As_1++(.box D [i6 x,i6 Y,.slice M R.length O,.slice U V X] 95::Bs_1)) _ _ hJ (hf.kp rfl) hc hF
  ·refine wp_skip ?_
   exact s Z (W (Z + 1)) sg Ls _ _ hJ (hf.kp rfl) hc hF
 ·refine wp_exit ?_
  refine aV ?_
  refine aV ?_
  have he:=sj hF
  rw [← he] at b
  refine eW ?_
  exact aa _ _ _ b ⟨Ls,hJ,hf.kp rfl,hc⟩

def jU (N:Nat) (i_:Int) (H:Int) (I:Int) (x:Int) (J:Int) (M:List aK) (D:List aA):Option ((List aA)) :=
 Option.bind (bG D i_) fun B=>
 Option.bind (tS ((D.set i_.toNat (⟨max B.Lo H,B.Hi⟩:aA)).set i_.toNat (⟨max B.Lo H,min B.Hi I⟩:aA)) D) fun _=>
 some ((D.set i_.toNat (⟨max B.Lo H,B.Hi⟩:aA)).set i_.toNat (⟨max B.Lo H,min B.Hi I⟩:aA))
theorem rN {N:Nat} {G:aS} {Lf:List Ent} {w:World} (i_:Int) (H:Int) (J:Int) (x:Int) (Z:Int) (Y:List aK) (I:List aA) {b_:Nat} {M:Nat} {U:Option Addr} {S:Nat} {V:Option Addr} {D:Nat} (y:Rd G 3 U S (Y.map aJ)) (hc:Ctx G (.box b_ [pq M] 91::.box M [i6 x,i6 Z,.slice U Y.length S,.slice V I.length D] 95::.row V D (I.map aC) 41 2::Lf) w) {d:(List aA)} (hF:jU N i_ H J x Z Y I=some d):Calls Tryz.prog 90 #[i6 i_,i6 H,i6 J,pq b_] w (fun e w=>e=.returned (.tuple #[])∧d.length=I.length∧Ctx G (.box b_ [pq M] 91::.box M [i6 x,i6 Z,.slice U Y.length S,.slice V I.length D] 95::.row V D (d.map aC) 41 2::Lf) w):=by
 unfold jU at hF
 refine cB Tryz.func90 rfl Tryz.ntmps90 rfl fun a hf=>zS fun K h=>zL hf hc nU m0 rfl fun a w hf hc=>sp 1 hf rfl fun a hf=>zP hf rfl (pFA kY rfl) fun a hf=>zL hf hc oW m1 rfl fun a w hf hc=>sp 1 hf rfl fun a hf=>?_
 obtain ⟨B,X,hF⟩:=aB hF
 obtain ⟨g,rfl,qa,qr⟩:=gH hc m2 X
 refine zP hf rfl (pIA Tryz.underlying54 cA rfl rfl qa) fun a hf=>sp 1 hf rfl fun a hf=>zT h ?_
 refine fI (fun θ=>[⟨none,none,1,i6 H⟩,⟨none,none,2,i6 J⟩,⟨none,none,7,.pointer (some ⟨g,i_.toNat * 2,none⟩)⟩,⟨some 0,none,14,.pointer (some ⟨g,i_.toNat * 2,none⟩)⟩,⟨some 1,none,15,.pointer (some ⟨g,i_.toNat * 2,none⟩)⟩,⟨some 2,none,16,.pointer (some ⟨g,i_.toNat * 2,none⟩)⟩,⟨some 3,none,17,.pointer (some ⟨g,i_.toNat * 2,none⟩)⟩,⟨some 4,none,18,.pointer (some ⟨g,i_.toNat * 2 + 0,none⟩)⟩,⟨some 5,none,19,i6 B.Lo⟩,⟨some 6,none,20,i6 H⟩,⟨some 7,none,21,i6 (max B.Lo H)⟩,⟨some 8,none,22,.pointer (some ⟨g,i_.toNat * 2,none⟩)⟩,⟨some 9,none,23,.pointer (some ⟨g,i_.toNat * 2,none⟩)⟩,⟨some 10,none,24,.pointer (some ⟨g,i_.toNat * 2 + 1,none⟩)⟩,⟨some 11,none,25,i6 B.Hi⟩,⟨some 12,none,26,i6 J⟩,⟨some 13,none,27,i6 (min B.Hi J)⟩,⟨some 14,none,28,.pointer (some ⟨g,i_.toNat * 2,none⟩)⟩,⟨some 15,none,29,.pointer (some ⟨g,i_.toNat * 2 + 0,none⟩)⟩,⟨some 17,none,30,.pointer (some ⟨g,i_.toNat * 2,none⟩)⟩,⟨some 18,none,31,.pointer (some ⟨g,i_.toNat * 2 + 1,none⟩)⟩]) (fun E θ=>.box b_ [pq M] 91::.box M [i6 x,i6 Z,.slice U Y.length S,.slice (some ⟨g,0,none⟩) I.length D] 95::(bif E 19 then .row (some ⟨g,0,none⟩) D (((I.set i_.toNat (⟨max B.Lo H,B.Hi⟩:aA)).set i_.toNat (⟨max B.Lo H,min B.Hi J⟩:aA)).map aC) 41 2 else bif E 16 then .row (some ⟨g,0,none⟩) D ((I.set i_.toNat (⟨max B.Lo H,B.Hi⟩:aA)).map aC) 41 2 else .row (some ⟨g,0,none⟩) D (I.map aC) 41 2)::Lf) [(16,5),(19,5),(16,11),(19,11),(19,16)] (fun a w=>Has 32 a []∧Ctx G (.box b_ [pq M] 91::.box M [i6 x,i6 Z,.slice U Y.length S,.slice (some ⟨g,0,none⟩) I.length D] 95::.row (some ⟨g,0,none⟩) D (((I.set i_.toNat (⟨max B.Lo H,B.Hi⟩:aA)).set i_.toNat (⟨max B.Lo H,min B.Hi J⟩:aA)).map aC) 41 2::Lf) w) aT (by kernel_rfl) (by kernel_rfl) (eZ.of hf ⟨rfl,rfl,rfl,trivial,trivial,trivial,trivial,trivial,trivial,trivial,trivial,trivial,trivial,trivial,trivial,trivial,trivial,trivial,trivial,trivial,trivial,trivial⟩) hc ⟨?_,?_,?_,?_,?_,?_,?_,?_,?_,?_,?_,?_,?_,?_,?_,?_,?_,?_,?_,?_,trivial⟩ ?_ ?_
 ·intro E θ a w hD hi hp he hc
  have hf:=he.h0.mT he 2 rfl
  refine sp 1 hf rfl fun a hf=>zD θ he hi hf 3 rfl rfl rfl hc
 ·intro E θ a w hD hi hp he hc
  have hf:=he.h0.mT he 2 rfl
  refine sp 1 hf rfl fun a hf=>zD θ he hi hf 4 rfl rfl rfl hc
 ·intro E θ a w hD hi hp he hc
  have hf:=he.h0.mT he 2 rfl
  refine sp 1 hf rfl fun a hf=>zD θ he hi hf 5 rfl rfl rfl hc
 ·intro E θ a w hD hi hp he hc
  have e2:=hp.o 2 rfl
  have hf:=he.h0.mP he 5 rfl e2
  refine sp 1 hf rfl fun a hf=>zD θ he hi hf 6 rfl rfl rfl hc
 ·intro E θ a w hD hi hp he hc
  have e3:=hp.o 3 rfl
  have hf:=he.h0.mP he 6 rfl e3
  refine zP hf rfl (pFA dS rfl) fun a hf=>zD θ he hi hf 7 rfl rfl rfl hc
 ·intro E θ a w hD hi hp he hc
  have e4:=hp.o 4 rfl
  have R:=hD.f 0 rfl hi
  have O:=hD.f 1 rfl hi
  try dsimp only at hc
  rw [R,O] at hc
  have hf:=he.h0.mP he 7 rfl e4
  refine zE hf hc rfl (cE aU rfl (dA (sz:=2) (i:=i_.toNat) (j:=0) m2 qr rfl)) fun a w hf hc=>zD θ he hi hf 8 rfl rfl rfl ?_
  try dsimp only
  rw [aQ 5 R rfl,aQ 5 O rfl]
  exact hc
 ·intro E θ a w hD hi hp he hc
  have hf:=he.h0.mT he 0 rfl
  refine sp 1 hf rfl fun a hf=>zD θ he hi hf 9 rfl rfl rfl hc
 ·intro E θ a w hD hi hp he hc
  have e5:=hp.o 5 rfl
  have e6:=hp.o 6 rfl
  have hf:=(he.h0.mP he 8 rfl e5).mP he 9 rfl e6
  refine zP hf rfl (xH rfl rfl) fun a hf=>zD θ he hi hf 10 rfl rfl rfl hc
 ·intro E θ a w hD hi hp he hc
  have hf:=he.h0.mT he 2 rfl
  refine sp 1 hf rfl fun a hf=>zD θ he hi hf 11 rfl rfl rfl hc
 ·intro E θ a w hD hi hp he hc
  have e8:=hp.o 8 rfl
  have hf:=he.h0.mP he 11 rfl e8
  refine sp 1 hf rfl fun a hf=>zD θ he hi hf 12 rfl rfl rfl hc
 ·intro E θ a w hD hi hp he hc
  have e9:=hp.o 9 rfl
  have hf:=he.h0.mP he 12 rfl e9
  refine zP hf rfl (pFA dC rfl) fun a hf=>zD θ he hi hf 13 rfl rfl rfl hc
 ·intro E θ a w hD hi hp he hc
  have r:=hp.o 10 rfl
  have R:=hD.f 2 rfl hi
  have O:=hD.f 3 rfl hi
  try dsimp only at hc
  rw [R,O] at hc
  have hf:=he.h0.mP he 13 rfl r
  refine zE hf hc rfl (cE aU rfl (dA (sz:=2) (i:=i_.toNat) (j:=1) m2 qr rfl)) fun a w hf hc=>zD θ he hi hf 14 rfl rfl rfl ?_
  try dsimp only
  rw [aQ 11 R rfl,aQ 11 O rfl]
  exact hc
 ·intro E θ a w hD hi hp he hc
  have hf:=he.h0.mT he 1 rfl
  refine sp 1 hf rfl fun a hf=>zD θ he hi hf 15 rfl rfl rfl hc
 ·intro E θ a w hD hi hp he hc
  have p:=hp.o 11 rfl
  have t:=hp.o 12 rfl
  have hf:=(he.h0.mP he 14 rfl p).mP he 15 rfl t
  refine zP hf rfl (zO rfl rfl) fun a hf=>zD θ he hi hf 16 rfl rfl rfl hc
 ·intro E θ a w hD hi hp he hc
  have e0:=hp.o 0 rfl
  have hf:=he.h0.mP he 3 rfl e0
  refine sp 1 hf rfl fun a hf=>zD θ he hi hf 17 rfl rfl rfl hc
 ·intro E θ a w hD hi hp he hc
  have u:=hp.o 14 rfl
  have hf:=he.h0.mP he 17 rfl u
  refine zP hf rfl (pFA dS rfl) fun a hf=>zD θ he hi hf 18 rfl rfl rfl hc
 ·intro E θ a w hD hi hp he hc
  have e7:=hp.o 7 rfl
  have v:=hp.o 15 rfl
  have O:=hD.f 4 rfl hi
  try dsimp only at hc
  rw [hi,O] at hc
  have hf:=(he.h0.mP he 10 rfl e7).mP he 18 rfl v
  refine aIu (sz:=2) (vs:=[i6 (max B.Lo H)]) (o':=0) (z:=(⟨max B.Lo H,B.Hi⟩:aA)) (xs:=I) hf hc rfl rfl rfl rfl eL rfl (fun x=>(eF x).1) (tK X) (fun e' b=>by cases (b.symm.trans (mX X).2); rfl) rfl u2 fun w hc=>zG θ he hi hf rfl ?_
  try dsimp only
  rw [aR E 16,aQ 16 O rfl]
  exact hc
 ·intro E θ a w hD hi hp he hc
  have e1:=hp.o 1 rfl
  have hf:=he.h0.mP he 4 rfl e1
  refine sp 1 hf rfl fun a hf=>zD θ he hi hf 19 rfl rfl rfl hc
 ·intro E θ a w hD hi hp he hc
  have s:=hp.o 17 rfl
  have hf:=he.h0.mP he 19 rfl s
  refine zP hf rfl (pFA dC rfl) fun a hf=>zD θ he hi hf 20 rfl rfl rfl hc
 ·intro E θ a w hD hi hp he hc
  have q:=hp.o 13 rfl
  have m:=hp.o 18 rfl
  have R:=hp.o 16 rfl
  try dsimp only at hc
  rw [R,hi] at hc
  have hf:=(he.h0.mP he 16 rfl q).mP he 20 rfl m
  refine aIu (sz:=2) (vs:=[i6 (min B.Hi J)]) (o':=1) (z:=(⟨max B.Lo H,min B.Hi J⟩:aA)) (xs:=(I.set i_.toNat (⟨max B.Lo H,B.Hi⟩:aA))) hf hc rfl rfl rfl rfl eL rfl (fun x=>(eF x).1) (by simpa using tK X) (fun e' b=>by rw [List.getElem?_set_self (by simpa using tK X)] at b; cases b; rfl) rfl u2 fun w hc=>?_
  refine zG θ he hi hf rfl ?_
  try dsimp only
  rw [cV 19 R,aR E 19]
  exact hc
 ·intro E θ a w k he hc
  have hf:=he.h0
  have R:=k 16 rfl
  have O:=k 19 rfl
  try dsimp only at hc
  rw [R,O] at hc
  exact ⟨hf.keep trivial,hc⟩
 rintro a w ⟨hf,hc⟩
 obtain ⟨_,n,hF⟩:=uI hF
 obtain rfl:=sj hF
 exact wF (by simp) rfl Tryz.results90 hf ⟨(by first | rfl | simp only [List.length_set]),n,hc⟩

def iG (s_:aA):Bool :=
 (decide (s_.Lo≤s_.Hi))
theorem xF {G:aS} {Lf:List Ent} {w:World} (s_:aA)   (hc:Ctx G (Lf) w) {B:Bool} (hF:iG s_=B):Calls Tryz.prog 92 #[.agg #[i6 s_.Lo,i6 s_.Hi]] w (fun e w=>e=.returned (.bool B)∧Ctx G (Lf) w):=by
 unfold iG at hF
 refine cB Tryz.func92 rfl Tryz.ntmps92 rfl fun a hf=>zS fun K h=>zB hf hc rfl fun D a w hf hc=>sp 1 hf rfl fun a hf=>zT h ?_
 refine zS fun K h=>zP hf rfl (pFA dS rfl) fun a hf=>zL hf hc aU m0 rfl fun a w hf hc=>zP hf rfl (pFA dC rfl) fun a hf=>zL hf hc aU m0 rfl fun a w hf hc=>sp 2 hf rfl fun a hf=>zT h ?_
 refine wp_ret ?_
 obtain rfl:=hF
 replace hc:=hc.drop k0
 exact zO1 Tryz.results92 hf rfl ⟨rfl,hc⟩

def fS (x:aA):Bool :=
 (!(iG x))
theorem qY {G:aS} {Lf:List Ent} {w:World} (x:aA) {b_:Nat}  (hc:Ctx G (.box b_ [.func (.func 92) #[] #[]] 138::Lf) w) {B:Bool} (hF:fS x=B):Calls Tryz.prog 97 #[.agg #[i6 x.Lo,i6 x.Hi],pq b_] w (fun e w=>e=.returned (.bool B)∧Ctx G (.box b_ [.func (.func 92) #[] #[]] 138::Lf) w):=by
 unfold fS at hF
 refine cB Tryz.func97 rfl Tryz.ntmps97 rfl fun a hf=>zS fun K h=>zB hf hc rfl fun D a w hf hc=>sp 1 hf rfl fun a hf=>zT h ?_
 refine zS fun K h=>zL hf hc aIn m1 rfl fun a w hf hc=>zN hf hc eA m0 rfl fun a w hf hc=>zQ (v:=.bool (iG x)) hf hc en_92 rfl (fun w hc=>xF x hc rfl) fun a w hf hc=>sp 2 hf rfl fun a hf=>zT h ?_
 refine wp_ret ?_
 obtain rfl:=hF
 replace hc:=hc.drop k0
 exact zO1 Tryz.results97 hf rfl ⟨rfl,hc⟩

def gL (N:Nat) (s_:List aA) (x:Int):Option (cY (Int) (Int)) :=
 cond (decide (x < ((s_.length:Nat):Int)))
 (Option.bind (bG s_ x) fun B=>
 cond (fS B)
 (some (.ret x))
 (some (.cont (W (x + 1)))))
 (some (.brk x))
def dD (N:Nat) (s_:List aA):Option (Int) :=
 Option.bind (bE (fun s4=>gL N s_ s4) N 0) fun x4=>
 exK x4 (fun s4=>some (-1)) some
theorem lK {N:Nat} {G:aS} {Lf:List Ent} {w:World} (s_:List aA) {D:Option Addr} {H:Nat} {b_:Nat} (M:Rd G 2 D H (s_.map aC)) (hc:Ctx G (.box b_ [.func (.func 92) #[] #[]] 138::Lf) w) {J:Int} (hF:dD N s_=some J):Calls Tryz.prog 108 #[.slice D s_.length H,.func (.func 97) #[] #[pq b_]] w (fun e w=>e=.returned (i6 J)∧Ctx G (.box b_ [.func (.func 92) #[] #[]] 138::Lf) w):=by
 unfold dD at hF
 refine cB Tryz.func108 rfl Tryz.ntmps108 rfl fun a hf=>zS fun K h=>sp 1 hf rfl fun a hf=>zT h ?_
 refine wp_seq_k fun K2 h2=>zS fun K h=>sp 1 hf rfl fun a hf=>zP hf rfl (bM Tryz.underlying54 rfl) fun a hf=>sp 1 hf rfl fun a hf=>zT h ?_
 refine wp_block ?_
 obtain ⟨x4,U,hF⟩:=aB hF
 let S4:Int→Act→World→Prop:=(fun (zz:Int) a w=>Has 19 a [(0,.slice D s_.length H),(1,.func (.func 97) #[] #[pq b_]),(7,i6 ((s_.length:Nat):Int)),(8,i6 zz)]∧Ctx G (.box b_ [.func (.func 92) #[] #[]] 138::Lf) w)
 have V:∀ (zz:Int) a w,x4=.go zz→S4 zz a w→K2 a w:=by
  rintro x a w rfl ⟨hf,hc⟩
  replace hF:=bW hF
  refine h2 _ _ ?_
  refine zS fun K h=>sp 1 hf rfl fun a hf=>zT h ?_
  refine wp_ret ?_
  obtain rfl:=sj hF
  exact zO1 Tryz.results108 hf rfl ⟨rfl,hc⟩
 have R:∀ r,x4=.out r→r=J:=by
  rintro r rfl
  exact sj hF
 refine dO N (dH (S:=S4) (x:=x4) ?_ N 0 _ _ ⟨hf.kp rfl,hc⟩ U)
 clear hF hf hc
 rintro x Y a w KB4 ⟨hf,hc⟩ hF B X
 unfold gL at hF
 refine zS fun K h=>sp 1 hf rfl fun a hf=>zT h ?_
 refine wp_seq_k fun K7 h7=>zI hf rfl hF ?_ ?_ <;> clear hF <;> intro hF
 ·refine wp_skip ?_
  refine h7 _ _ ?_
  refine wp_seq_k fun K8 h8=>wp_block ?_
  refine zS fun K h=>sp 2 hf rfl fun a hf=>zT h ?_
  refine zS fun K h=>sp 3 hf rfl fun a hf=>?_
  obtain ⟨I,O,hF⟩:=aB hF
  obtain ⟨Z,o,qa,qp⟩:=M.atm O
  refine zP hf rfl (pIA Tryz.underlying54 cA rfl rfl qa) fun a hf=>zE hf hc rfl (jM (vs:=[i6 I.Lo,i6 I.Hi]) eA rfl rfl (cI qp (n:=2) (o':=0) rfl)) fun a w hf hc=>zQ (v:=.bool (fS I)) hf hc aJ8 rfl (fun w hc=>(qY I (hc.pick k0) rfl).mono fun e w h=>⟨h.1,(h.2.unpick k0)⟩) fun a w hf hc=>zT h ?_
  refine zI hf rfl hF ?_ ?_ <;> clear hF <;> intro hF
  ·refine zS fun K h=>sp 2 hf rfl fun a hf=>zT h ?_
   refine wp_ret ?_
   refine bU ?_
   refine aO ?_
   refine aO ?_
   have he:=sj hF
   rw [← he] at B
   replace hF:=R _ B
   refine bU ?_
   refine aO ?_
   obtain rfl:=hF
   exact zO1 Tryz.results108 hf rfl ⟨rfl,hc⟩
  ·refine wp_skip ?_
   refine h8 _ _ ?_
   refine dE ?_
   refine sp 2 hf rfl fun a hf=>aP ?_
   exact X (W (x + 1)) _ _ (sj hF).symm ⟨hf.kp rfl,hc⟩
 ·refine wp_exit ?_
  refine aV ?_
  refine aV ?_
  have he:=sj hF
  rw [← he] at B
  refine eW ?_
  exact V _ _ _ B ⟨hf.kp rfl,hc⟩

def cT (N:Nat) (s_:List aA):Option (Bool) :=
 Option.bind (dD N s_) fun r=>
 some (decide (0≤r))
theorem kO {N:Nat} {G:aS} {Lf:List Ent} {w:World} (s_:List aA) {D:Option Addr} {B:Nat} {b_:Nat} (I:Rd G 2 D B (s_.map aC)) (hc:Ctx G (.box b_ [.func (.func 92) #[] #[]] 138::Lf) w) {H:Bool} (hF:cT N s_=some H):Calls Tryz.prog 96 #[.slice D s_.length B,.func (.func 97) #[] #[pq b_]] w (fun e w=>e=.returned (.bool H)∧Ctx G (.box b_ [.func (.func 92) #[] #[]] 138::Lf) w):=by
 unfold cT at hF
 refine cB Tryz.func96 rfl Tryz.ntmps96 rfl fun a hf=>zS fun K h=>sp 1 hf rfl fun a hf=>zT h ?_
 refine zS fun K h=>sp 2 hf rfl fun a hf=>?_
 obtain ⟨r,hr,hF⟩:=aB hF
 refine zQ (v:=i6 r) hf hc aH6 rfl (fun w hc=>(lK s_ I (hc.pick k0) hr).mono fun e w h=>⟨h.1,(h.2.unpick k0)⟩) fun a w hf hc=>sp 2 hf rfl fun a hf=>zT h ?_
 refine wp_ret ?_
 obtain rfl:=sj hF
 exact zO1 Tryz.results96 hf rfl ⟨rfl,hc⟩

def dK (N:Nat) (l:List aA):Option (Bool) :=
 Option.bind (cT N l) fun r=>
 some (!r)
theorem sB {N:Nat} {G:aS} {Lf:List Ent} {w:World} (l:List aA) {H:Option Addr} {B:Nat} (I:Rd G 2 H B (l.map aC)) (hc:Ctx G (Lf) w) {D:Bool} (hF:dK N l=some D):Calls Tryz.prog 75 #[.slice H l.length B,.func (.func 92) #[] #[]] w (fun e w=>e=.returned (.bool D)∧Ctx G (Lf) w):=by
 unfold dK at hF
 refine cB Tryz.func75 rfl Tryz.ntmps75 rfl fun a hf=>zS fun K h=>zB hf hc rfl fun J a w hf hc=>sp 1 hf rfl fun a hf=>zT h ?_
 refine zS fun K h=>sp 1 hf rfl fun a hf=>zP hf rfl (pMF (us:=[pq J]) rfl rfl) fun a hf=>?_
 obtain ⟨r,hr,hF⟩:=aB hF
 refine zQ (v:=.bool r) hf hc aKf rfl (fun w hc=>(kO l I (hc.pick k0) hr).mono fun e w h=>⟨h.1,(h.2.unpick k0)⟩) fun a w hf hc=>sp 2 hf rfl fun a hf=>zT h ?_
 refine wp_ret ?_
 obtain rfl:=sj hF
 replace hc:=hc.drop k0
 exact zO1 Tryz.results75 hf rfl ⟨rfl,hc⟩

def fH (N:Nat) (r:aF) (I:List aA) (B:List aA) (xv:Int) (H:Int):Option (Rs ((List aA))) :=
 Option.bind (bG B xv) fun M=>
 Option.bind (bG B xv) fun J=>
 Option.bind (jU N H (W (M.Lo - r.Fall)) (W (J.Hi + r.Rise)) r.Rise r.Fall r.Days B) fun D=>
 Option.bind (tS D I) fun _=>
 some (.go D)
def eB (N:Nat) (r:aF) (O:List aA) (D:List aA) (B:Int) (I:Int):Option (Rs ((List aA))) :=
 Option.bind (bG D B) fun J=>
 Option.bind (bG D B) fun M=>
 Option.bind (jU N I (W (J.Lo - r.Rise)) (W (M.Hi + r.Fall)) r.Rise r.Fall r.Days D) fun H=>
 Option.bind (tS H O) fun _=>
 some (.go H)
def gS (N:Nat) (r:aF) (x:Int) (B:List aA):Option (cY (Int × (List aA)) ((Bool × Int) ⊕ (Int × Int × (List aA) × Bool × Int))) :=
 cond (decide (x < ((r.Days.length:Nat):Int)))
 (Option.bind (bG r.Days x) fun H=>
 Option.bind (fF N H) fun D=>
 Option.bind (pG ((B++[D])).length) fun un=>
 some (.cont (W (x + 1),(B++[D]))))
 (some (.brk (x,B)))
def kH (N:Nat) (r:aF):Option ((Bool × Int) ⊕ (Int × Int × (List aA) × Bool × Int)) :=
 Option.bind (iU N r) fun I=>
 cond (I != 0)
 (some (.inl (false,I)))
 (Option.bind (bE (fun s9=>gS N r s9.1 s9.2) N (0,([]:List aA))) fun x9=>
 exK x9 (fun s9=>Option.bind (hO N (⟨r,s9.2⟩:iC) false) fun J=>
 Option.bind (dN N r.Rise r.Fall r.Days J (rY (fun (zz:(List aA)) (D:(Int × Int))=>fH N r s9.2 zz D.1 D.2)) (.go s9.2)) fun R=>
 rsK R (fun B=>Option.bind (hO N (⟨r,B⟩:iC) true) fun M=>
 Option.bind (dN N r.Rise r.Fall r.Days M (rY (fun (zz:(List aA)) (D:(Int × Int))=>eB N r B zz D.1 D.2)) (.go B)) fun O=>
 rsK O (fun H=>Option.bind (dK N H) fun S=>
 some (.inr (r.Rise,r.Fall,H,S,0))) (fun H=>none)) (fun B=>none)) some)
theorem tX {N:Nat} {G:aS} {Lf:List Ent} {w:World} (r:aF) {D:Option Addr} {H:Nat} (d:Rd G 3 D H (r.Days.map aJ)) (hc:Ctx G (Lf) w) {an:(Bool × Int) ⊕ (Int × Int × (List aA) × Bool × Int)} (hF:kH N r=some an):Calls Tryz.prog 66 #[.agg #[i6 r.Rise,i6 r.Fall,.slice D r.Days.length H]] w (fun e w=>yA (fun rr=>e=.returned (.tuple #[.pointer none,.bool rr.1,i6 rr.2])∧Ctx G (Lf) w) (fun rr=>∃ (b3:Nat) (b4:Option Addr) (b5:Nat),e=.returned (.tuple #[pq b3,.bool rr.2.2.2.1,i6 rr.2.2.2.2])∧Ctx G (.row b4 b5 (rr.2.2.1.map aC) 41 2::.box b3 [i6 rr.1,i6 rr.2.1,.slice D r.Days.length H,.slice b4 rr.2.2.1.length b5] 95::Lf) w) an):=by
 unfold kH at hF
 refine aCr Tryz.func66 rfl Tryz.ntmps66 rfl fun a hf=>zS fun K h=>zB hf hc rfl fun dn a w hf hc=>sp 3 hf rfl fun a hf=>zT h ?_
 refine wp_seq_k fun K2 h2=>zS fun K h=>zN hf hc qQ m0 rfl fun a w hf hc=>?_
 obtain ⟨c0,cg,hF⟩:=aB hF
 refine zQ (v:=i6 c0) hf hc aDh rfl (fun w hc=>lJ r d hc cg) fun a w hf hc=>sp 1 hf rfl fun a hf=>zT h ?_
 refine zS fun K h=>sp 2 hf rfl fun a hf=>zT h ?_
 refine zI hf rfl hF ?_ ?_ <;> clear hF <;> intro hF
 ·refine zS fun K h=>sp 4 hf rfl fun a hf=>zT h ?_
  refine wp_ret ?_
  refine aO ?_
  obtain rfl:=sj hF
  replace hc:=hc.drop k0
  refine aA3 hf ?_
  exact aD0 Tryz.results66 hf hc (show dG _ 2=_ from rfl) (show dG _ 3=_ from rfl) (show dG _ 4=_ from rfl) ⟨rfl,hc⟩
 ·refine wp_skip ?_
  refine h2 _ _ ?_
  refine zS fun K h=>zN hf hc qQ m0 rfl fun a w hf hc=>zP hf rfl (bH (cells:=[i6 r.Rise,i6 r.Fall,.slice D r.Days.length H,.slice none 0 0]) bt_95 rfl rfl) fun a hf=>zB hf hc rfl fun I a w hf hc=>zA hf hc zr_91 rfl fun R a w hf hc=>zW hf hc sz_91 u0 rfl fun w hc=>zT h ?_
  refine wp_seq_k fun K7 h7=>zS fun K h=>zP hf rfl (pFA kZ rfl) fun a hf=>zL hf hc sN m2 rfl fun a w hf hc=>zP hf rfl (bM Tryz.underlying37 rfl) fun a hf=>sp 1 hf rfl fun a hf=>zT h ?_
  refine wp_block ?_
  obtain ⟨x9,c3,hF⟩:=aB hF
  let S9:(Int × (List aA))→Act→World→Prop:=(fun (zz:Int × (List aA)) a w=>∃ (U:Option Addr) (O:Nat),Has 118 a [(6,pq R),(23,.slice D r.Days.length H),(24,i6 ((r.Days.length:Nat):Int)),(25,i6 zz.1)]∧Ctx G (.row U O (zz.2.map aC) 41 2::.box R [pq I] 91::.box I [i6 r.Rise,i6 r.Fall,.slice D r.Days.length H,.slice U zz.2.length O] 95::Lf) w)
  have da:∀ (zz:Int × (List aA)) a w,x9=.go zz→S9 zz a w→K7 a w:=by
   rintro ⟨x,k⟩ a w rfl ⟨U,O,hf,hc⟩
   replace hF:=bW hF
   refine h7 _ _ ?_
   refine zS fun K h=>zP hf rfl (pMF (us:=[pq R]) rfl rfl) fun a hf=>zA hf hc aMa rfl fun Y a w hf hc=>zW hf hc aLj u0 rfl fun w hc=>zT h ?_
   refine wp_seq_k fun K11 c9=>zS fun K h=>zL hf hc nU m2 rfl fun a w hf hc=>?_
   obtain ⟨am,cb,hF⟩:=aB hF
   obtain ⟨G1,a1,aj,hc,ar⟩:=lend hc k1
   refine zC hf aKq rfl (pU (⟨r,k⟩:iC) false (d.mono a1) aj (hc.pick k2) cb) ?_
   rintro _ w ⟨ax,ay,rfl,hc⟩
   refine ⟨_,rfl,fun a hf=>?_⟩
   replace hc:=ar _ _ hc
   refine zT h ?_
   obtain ⟨c8,cf,hF⟩:=aB hF
   replace hc:=(((hc.pick k0).pick k3).pick k3).pick k3
   refine aF8 (C:=[.box ax [pq I] 91,.box ay [.bool am] 4]) (C2:=[.box ax [pq I] 91,.box ay [.bool am] 4]) (L0:=[.box I [i6 r.Rise,i6 r.Fall,.slice D r.Days.length H,.slice U k.length O] 95,.row U O (k.map aC) 41 2,.box Y [.func (.func 90) #[] #[pq R]] 160,.box R [pq I] 91]) (Lf:=Lf) (encs:=fun x:(Int × Int)=>[i6 x.1,i6 x.2]) (fun (zz:(List aA)) L=>zz.length=k.length∧L=[.box I [i6 r.Rise,i6 r.Fall,.slice D r.Days.length H,.slice U zz.length O] 95,.row U O (zz.map aC) 41 2,.box Y [.func (.func 90) #[] #[pq R]] 160,.box R [pq I] 91]) (fun (zz:(List aA)) (ag:(Int × Int))=>fH N r k zz ag.1 ag.2) k c8 hf hc rfl aId (fun _=>rfl) rfl ⟨rfl,rfl⟩ ?_ ?_ ?_ ?_
   ·intro lq mq J L Lx w hy hQ hJ hc
    have a6:∀ (zz:(List aA)) (M:List Ent),(fun (zz:(List aA)) L=>zz.length=k.length∧L=[.box I [i6 r.Rise,i6 r.Fall,.slice D r.Days.length H,.slice U zz.length O] 95,.row U O (zz.map aC) 41 2,.box Y [.func (.func 90) #[] #[pq R]] 160,.box R [pq I] 91]) zz M→∃ A B,M=A++(.box I [i6 r.Rise,i6 r.Fall,.slice D r.Days.length H,.slice U k.length O] 95::B):=by
     rintro X _ ⟨hl,rfl⟩
     try rw [show _=_ from hl]
     exact ⟨[],_,rfl⟩
    exact nW r.Rise r.Fall r.Days am d J _ hy _ hJ (hQ _ a6) hc cf
   ·clear hF hf hc
    rintro lq mq X ⟨xv,ak⟩ oq _ Lr Lb a w c7 ⟨hl,rfl⟩ hF hf hc hK
    replace hf:Has 118 a [(6,pq R),(9,pq Y),(44,i6 xv),(45,i6 ak)]:=hf.kp rfl
    replace hc:Ctx G (.box I [i6 r.Rise,i6 r.Fall,.slice D r.Days.length H,.slice U X.length O] 95::.row U O (X.map aC) 41 2::.box Y [.func (.func 90) #[] #[pq R]] 160::.box R [pq I] 91::Lr) w:=hc
    replace hF:fH N r k X xv ak=some oq:=hF
    unfold fH at hF
    refine sX fun K14 di=>oE (fun _ _ h=>h) rfl ?_
    refine sp 1 hf rfl fun a hf=>aP ?_
    refine di _ _ ?_
    refine oE (fun _ _ h=>h) rfl ?_
    refine sp 1 hf rfl fun a hf=>aP ?_
    refine hK _ _ [.box I [i6 r.Rise,i6 r.Fall,.slice D r.Days.length H,.slice U X.length O] 95,.row U O (X.map aC) 41 2,.box Y [.func (.func 90) #[] #[pq R]] 160,.box R [pq I] 91] hc fun w hc=>?_
    replace hc:Ctx G (.box I [i6 r.Rise,i6 r.Fall,.slice D r.Days.length H,.slice U X.length O] 95::.row U O (X.map aC) 41 2::.box Y [.func (.func 90) #[] #[pq R]] 160::.box R [pq I] 91::Lb) w:=hc
    refine wR fun K15 c5=>wE ?_
    obtain ⟨bd,cv,hF⟩:=aB hF
    obtain ⟨g,rfl,qa,qr⟩:=gH hc m1 cv
    obtain ⟨bm,b6,hF⟩:=aB hF
    obtain ⟨b9,cp⟩:=kD hc m1 b6
    obtain ⟨a3,cx,hF⟩:=aB hF
    refine aAj (fun _ _ h=>h) rfl (fun θ=>(⟨none,none,6,pq R⟩::⟨none,none,9,pq Y⟩::⟨none,none,10,i6 xv⟩::⟨none,none,11,i6 ak⟩::⟨some 0,none,46,.func (.func 90) #[] #[pq R]⟩::⟨some 1,none,47,i6 ak⟩::⟨some 2,none,48,pq I⟩::⟨some 3,none,49,pq I⟩::⟨some 4,none,50,.pointer (some ⟨I,3,none⟩)⟩::⟨some 5,none,51,.slice (some ⟨g,0,none⟩) X.length O⟩::⟨some 6,none,52,i6 xv⟩::⟨some 7,none,53,.pointer (some ⟨g,xv.toNat * 2,none⟩)⟩::⟨some 8,none,54,.pointer (some ⟨g,xv.toNat * 2 + 0,none⟩)⟩::⟨some 9,none,55,i6 bd.Lo⟩::⟨some 10,none,56,pq I⟩::⟨some 11,none,57,pq I⟩::⟨some 12,none,58,pq I⟩::⟨some 13,none,59,.pointer (some ⟨I,1,none⟩)⟩::⟨some 14,none,60,i6 r.Fall⟩::⟨some 15,none,61,i6 (W (bd.Lo - r.Fall))⟩::⟨some 16,none,62,pq I⟩::⟨some 17,none,63,pq I⟩::⟨some 18,none,64,.pointer (some ⟨I,3,none⟩)⟩::⟨some 19,none,65,.slice (some ⟨g,0,none⟩) X.length O⟩::⟨some 20,none,66,i6 xv⟩::⟨some 21,none,67,.pointer (some ⟨g,xv.toNat * 2,none⟩)⟩::⟨some 22,none,68,.pointer (some ⟨g,xv.toNat * 2 + 1,none⟩)⟩::⟨some 23,none,69,i6 bm.Hi⟩::⟨some 24,none,70,pq I⟩::⟨some 25,none,71,pq I⟩::⟨some 26,none,72,pq I⟩::⟨some 27,none,73,pq I⟩::⟨some 28,none,74,i6 r.Rise⟩::⟨some 29,none,75,i6 (W (bm.Hi + r.Rise))⟩::⟨some 30,none,76,.tuple #[]⟩::[])) (fun E θ=>(bif E 30 then .box I [i6 r.Rise,i6 r.Fall,.slice D r.Days.length H,.slice (some ⟨g,0,none⟩) a3.length O] 95 else .box I [i6 r.Rise,i6 r.Fall,.slice D r.Days.length H,.slice (some ⟨g,0,none⟩) X.length O] 95)::(bif E 30 then .row (some ⟨g,0,none⟩) O (a3.map aC) 41 2 else .row (some ⟨g,0,none⟩) O (X.map aC) 41 2)::.box Y [.func (.func 90) #[] #[pq R]] 160::.box R [pq I] 91::Lb) [(7,5),(8,7),(9,8),(15,9),(30,15),(15,14),(21,19),(22,21),(23,22),(29,23),(30,29),(29,28)] (fun a w=>Has 118 a [(6,pq R),(9,pq Y)]∧Ctx G (.box I [i6 r.Rise,i6 r.Fall,.slice D r.Days.length H,.slice (some ⟨g,0,none⟩) a3.length O] 95::.row (some ⟨g,0,none⟩) O (a3.map aC) 41 2::.box Y [.func (.func 90) #[] #[pq R]] 160::.box R [pq I] 91::Lb) w) aT (by kernel_rfl) (by kernel_rfl) (eZ.of hf ⟨rfl,rfl,rfl,rfl,trivial,trivial,trivial,trivial,trivial,trivial,trivial,trivial,trivial,trivial,trivial,trivial,trivial,trivial,trivial,trivial,trivial,trivial,trivial,trivial,trivial,trivial,trivial,trivial,trivial,trivial,trivial,trivial,trivial,trivial,trivial,trivial⟩) hc ⟨?_,?_,?_,?_,?_,?_,?_,?_,?_,?_,?_,?_,?_,?_,?_,?_,?_,?_,?_,?_,?_,?_,?_,?_,?_,?_,?_,?_,?_,?_,?_,trivial⟩ ?_ ?_
    ·intro E θ a w hD hi hp he hc
     have hf:=he.h0.mT he 1 rfl
     refine zL hf hc aI1 m2 rfl fun a w hf hc=>zD θ he hi hf 4 rfl rfl rfl hc
    ·intro E θ a w hD hi hp he hc
     have hf:=he.h0.mT he 3 rfl
     refine sp 1 hf rfl fun a hf=>zD θ he hi hf 5 rfl rfl rfl hc
    ·intro E θ a w hD hi hp he hc
     have hf:=he.h0.mT he 0 rfl
     refine zL hf hc nU m3 rfl fun a w hf hc=>zD θ he hi hf 6 rfl rfl rfl hc
    ·intro E θ a w hD hi hp he hc
     have e2:=hp.o 2 rfl
     have hf:=he.h0.mP he 6 rfl e2
     refine sp 1 hf rfl fun a hf=>zD θ he hi hf 7 rfl rfl rfl hc
    ·intro E θ a w hD hi hp he hc
     have e3:=hp.o 3 rfl
     have hf:=he.h0.mP he 7 rfl e3
     refine zP hf rfl (pFA kY rfl) fun a hf=>zD θ he hi hf 8 rfl rfl rfl hc
    ·intro E θ a w hD hi hp he hc
     have e4:=hp.o 4 rfl
     have e7:=hD.f 0 rfl hi
     have e8:=hD.f 1 rfl e7
     have e9:=hD.f 2 rfl e8
     have q:=hD.f 3 rfl e9
     have V:=hD.f 4 rfl q
     try dsimp only at hc
     rw [V] at hc
     have hf:=he.h0.mP he 8 rfl e4
     refine zL hf hc oW m0 rfl fun a w hf hc=>zD θ he hi hf 9 rfl rfl rfl ?_
     try dsimp only
     rw [aQ 5 V rfl]
     exact hc
    ·intro E θ a w hD hi hp he hc
     have hf:=he.h0.mT he 2 rfl
     refine sp 1 hf rfl fun a hf=>zD θ he hi hf 10 rfl rfl rfl hc
    ·intro E θ a w hD hi hp he hc
     have e5:=hp.o 5 rfl
     have e6:=hp.o 6 rfl
     have e8:=hD.f 1 rfl hi
     have e9:=hD.f 2 rfl e8
     have q:=hD.f 3 rfl e9
     have V:=hD.f 4 rfl q
     try dsimp only at hc
     rw [V] at hc
     have hf:=(he.h0.mP he 9 rfl e5).mP he 10 rfl e6
     refine zP hf rfl (pIA Tryz.underlying54 cA rfl rfl qa) fun a hf=>zD θ he hi hf 11 rfl rfl rfl ?_
     try dsimp only
     rw [aQ 7 V rfl]
     exact hc
    ·intro E θ a w hD hi hp he hc
     have e7:=hp.o 7 rfl
     have hf:=he.h0.mP he 11 rfl e7
     refine zP hf rfl (pFA dS rfl) fun a hf=>zD θ he hi hf 12 rfl rfl rfl hc
    ·intro E θ a w hD hi hp he hc
     have e8:=hp.o 8 rfl
     have q:=hD.f 3 rfl hi
     have V:=hD.f 4 rfl q
     try dsimp only at hc
     rw [V] at hc
     have hf:=he.h0.mP he 12 rfl e8
     refine zE hf hc rfl (cE aU rfl (dA (sz:=2) (i:=xv.toNat) (j:=0) m1 qr rfl)) fun a w hf hc=>zD θ he hi hf 13 rfl rfl rfl ?_
     try dsimp only
     rw [aQ 9 V rfl]
     exact hc
    ·intro E θ a w hD hi hp he hc
     have hf:=he.h0.mT he 0 rfl
     refine zL hf hc nU m3 rfl fun a w hf hc=>zD θ he hi hf 14 rfl rfl rfl hc
    ·intro E θ a w hD hi hp he hc
     have a2:=hp.o 10 rfl
     have hf:=he.h0.mP he 14 rfl a2
     refine sp 1 hf rfl fun a hf=>zD θ he hi hf 15 rfl rfl rfl hc
    ·intro E θ a w hD hi hp he hc
     have ac:=hp.o 11 rfl
     have hf:=he.h0.mP he 15 rfl ac
     refine zP hf rfl (pFA sU rfl) fun a hf=>zD θ he hi hf 16 rfl rfl rfl hc
    ·intro E θ a w hD hi hp he hc
     have bk:=hp.o 12 rfl
     have hf:=he.h0.mP he 16 rfl bk
     refine zP hf rfl (pFA tF rfl) fun a hf=>zD θ he hi hf 17 rfl rfl rfl hc
    ·intro E θ a w hD hi hp he hc
     have bj:=hp.o 13 rfl
     have q:=hD.f 5 rfl hi
     have V:=hD.f 4 rfl q
     try dsimp only at hc
     rw [V] at hc
     have hf:=he.h0.mP he 17 rfl bj
     refine zL hf hc aU m0 rfl fun a w hf hc=>zD θ he hi hf 18 rfl rfl rfl ?_
     try dsimp only
     rw [aQ 14 V rfl]
     exact hc
    ·intro E θ a w hD hi hp he hc
     have e9:=hp.o 9 rfl
     have bf:=hp.o 14 rfl
     have hf:=(he.h0.mP he 13 rfl e9).mP he 18 rfl bf
     refine sp 1 hf rfl fun a hf=>zD θ he hi hf 19 rfl rfl rfl hc
    ·intro E θ a w hD hi hp he hc
     have hf:=he.h0.mT he 0 rfl
     refine zL hf hc nU m3 rfl fun a w hf hc=>zD θ he hi hf 20 rfl rfl rfl hc
    ·intro E θ a w hD hi hp he hc
     have bv:=hp.o 16 rfl
     have hf:=he.h0.mP he 20 rfl bv
     refine sp 1 hf rfl fun a hf=>zD θ he hi hf 21 rfl rfl rfl hc
    ·intro E θ a w hD hi hp he hc
     have b0:=hp.o 17 rfl
     have hf:=he.h0.mP he 21 rfl b0
     refine zP hf rfl (pFA kY rfl) fun a hf=>zD θ he hi hf 22 rfl rfl rfl hc
    ·intro E θ a w hD hi hp he hc
     have bi:=hp.o 18 rfl
     have au:=hD.f 6 rfl hi
     have aa:=hD.f 7 rfl au
     have ab:=hD.f 8 rfl aa
     have m:=hD.f 9 rfl ab
     have V:=hD.f 10 rfl m
     try dsimp only at hc
     rw [V] at hc
     have hf:=he.h0.mP he 22 rfl bi
     refine zL hf hc oW m0 rfl fun a w hf hc=>zD θ he hi hf 23 rfl rfl rfl ?_
     try dsimp only
     rw [aQ 19 V rfl]
     exact hc
    ·intro E θ a w hD hi hp he hc
     have hf:=he.h0.mT he 2 rfl
     refine sp 1 hf rfl fun a hf=>zD θ he hi hf 24 rfl rfl rfl hc
    ·intro E θ a w hD hi hp he hc
     have bt:=hp.o 19 rfl
     have bx:=hp.o 20 rfl
     have aa:=hD.f 7 rfl hi
     have ab:=hD.f 8 rfl aa
     have m:=hD.f 9 rfl ab
     have V:=hD.f 10 rfl m
     try dsimp only at hc
     rw [V] at hc
     have hf:=(he.h0.mP he 23 rfl bt).mP he 24 rfl bx
     refine zP hf rfl (pIA Tryz.underlying54 cA rfl rfl b9) fun a hf=>zD θ he hi hf 25 rfl rfl rfl ?_
     try dsimp only
     rw [aQ 21 V rfl]
     exact hc
    ·intro E θ a w hD hi hp he hc
     have au:=hp.o 21 rfl
     have hf:=he.h0.mP he 25 rfl au
     refine zP hf rfl (pFA dC rfl) fun a hf=>zD θ he hi hf 26 rfl rfl rfl hc
    ·intro E θ a w hD hi hp he hc
     have aa:=hp.o 22 rfl
     have m:=hD.f 9 rfl hi
     have V:=hD.f 10 rfl m
     try dsimp only at hc
     rw [V] at hc
     have hf:=he.h0.mP he 26 rfl aa
     refine zE hf hc rfl (cE aU rfl (dA (sz:=2) (i:=xv.toNat) (j:=1) m1 cp rfl)) fun a w hf hc=>zD θ he hi hf 27 rfl rfl rfl ?_
     try dsimp only
     rw [aQ 23 V rfl]
     exact hc
    ·intro E θ a w hD hi hp he hc
     have hf:=he.h0.mT he 0 rfl
     refine zL hf hc nU m3 rfl fun a w hf hc=>zD θ he hi hf 28 rfl rfl rfl hc
    ·intro E θ a w hD hi hp he hc
     have bc:=hp.o 24 rfl
     have hf:=he.h0.mP he 28 rfl bc
     refine sp 1 hf rfl fun a hf=>zD θ he hi hf 29 rfl rfl rfl hc
    ·intro E θ a w hD hi hp he hc
     have b2:=hp.o 25 rfl
     have hf:=he.h0.mP he 29 rfl b2
     refine zP hf rfl (pFA sU rfl) fun a hf=>zD θ he hi hf 30 rfl rfl rfl hc
    ·intro E θ a w hD hi hp he hc
     have bn:=hp.o 26 rfl
     have hf:=he.h0.mP he 30 rfl bn
     refine zP hf rfl (pFA sV rfl) fun a hf=>zD θ he hi hf 31 rfl rfl rfl hc
    ·intro E θ a w hD hi hp he hc
     have br:=hp.o 27 rfl
     have m:=hD.f 11 rfl hi
     have V:=hD.f 10 rfl m
     try dsimp only at hc
     rw [V] at hc
     have hf:=he.h0.mP he 31 rfl br
     refine zL hf hc aU m0 rfl fun a w hf hc=>zD θ he hi hf 32 rfl rfl rfl ?_
     try dsimp only
     rw [aQ 28 V rfl]
     exact hc
    ·intro E θ a w hD hi hp he hc
     have ab:=hp.o 23 rfl
     have bg:=hp.o 28 rfl
     have hf:=(he.h0.mP he 27 rfl ab).mP he 32 rfl bg
     refine sp 1 hf rfl fun a hf=>zD θ he hi hf 33 rfl rfl rfl hc
    ·intro E θ a w hD hi hp he hc
     have e0:=hp.o 0 rfl
     have e1:=hp.o 1 rfl
     have q:=hp.o 15 rfl
     have m:=hp.o 29 rfl
     try dsimp only at hc
     rw [hi] at hc
     have hf:=(((he.h0.mP he 4 rfl e0).mP he 5 rfl e1).mP he 19 rfl q).mP he 33 rfl m
     refine zC hf aK2 rfl (rN ak (W (bd.Lo - r.Fall)) (W (bm.Hi + r.Rise)) r.Rise r.Fall r.Days X d (((hc.pick k1).pick k1).pick k3) cx) ?_
     rintro _ w ⟨rfl,bq,hc⟩
     refine ⟨_,rfl,fun a hf=>?_⟩
     try rw [← bq] at hf
     try rw [← bq] at hc
     refine aP ?_
     refine eY ?_
     intro ds u ap
     replace hc:=(((hc.pick k0).pick k3).pick k3).pick k3
     refine ⟨θ,he.put0 hi ap hf rfl 34 rfl rfl,?_⟩
     try dsimp only
     rw [aR E 30]
     exact hc
    ·intro E θ a w ad he hc
     have hf:=he.h0
     have V:=ad 30 rfl
     replace hf:=hf.more he 1 rfl (onT)
     replace hf:=hf.more he 0 rfl (onT)
     try dsimp only at hc
     rw [V] at hc
     exact ⟨hf.kp rfl,hc⟩
    rintro a w ⟨hf,hc⟩
    refine c5 _ _ ?_
    obtain ⟨_,b7,hF⟩:=uI hF
    exact ⟨a3,_,(sj hF).symm,⟨b7,rfl⟩,hc⟩
   ·rintro D_1 X _ a w ai ⟨hl,rfl⟩ hf hc
    replace hf:Has ⟨118,lY (D_1::[])⟩ a [(6,pq R),(9,pq Y)]:=hf.kp rfl
    replace hc:Ctx G (.box ax [pq I] 91::.box ay [.bool am] 4::.box I [i6 r.Rise,i6 r.Fall,.slice D r.Days.length H,.slice U X.length O] 95::.row U O (X.map aC) 41 2::.box Y [.func (.func 90) #[] #[pq R]] 160::.box R [pq I] 91::(oH (D_1::[])++Lf)) w:=nL (C:=[.box ax [pq I] 91,.box ay [.bool am] 4]) (L:=[.box I [i6 r.Rise,i6 r.Fall,.slice D r.Days.length H,.slice U X.length O] 95,.row U O (X.map aC) 41 2,.box Y [.func (.func 90) #[] #[pq R]] 160,.box R [pq I] 91]) hc
    replace hF:(Option.bind (hO N (⟨r,X⟩:iC) true) fun af=>Option.bind (dN N r.Rise r.Fall r.Days af (rY (fun (zz:(List aA)) (ag:(Int × Int))=>eB N r X zz ag.1 ag.2)) (.go X)) fun b1=>rsK b1 (fun a8=>Option.bind (dK N a8) fun a4=>some (.inr (r.Rise,r.Fall,a8,a4,0))) (fun a8=>none))=some an:=by rcases ai with rfl | rfl <;> exact hF
    refine c9 _ _ ?_
    refine wp_seq_k fun K16 df=>zS fun K h=>zL hf hc nU m5 rfl fun a w hf hc=>?_
    obtain ⟨af,cs,hF⟩:=aB hF
    obtain ⟨G1,a1,aj,hc,ar⟩:=lend hc k3
    refine zC hf aKq rfl (pU (⟨r,X⟩:iC) true (d.mono a1) aj (hc.pick k2) cs) ?_
    rintro _ w ⟨az,av,rfl,hc⟩
    refine ⟨_,rfl,fun a hf=>?_⟩
    replace hc:=ar _ _ hc
    refine zT h ?_
    obtain ⟨b1,ct,hF⟩:=aB hF
    replace hc:=(((((hc.drop k5).drop k4).pick k0).pick k3).pick k3).pick k3
    refine aF8 (C:=[.box az [pq I] 91,.box av [.bool af] 4]) (C2:=[.box az [pq I] 91,.box av [.bool af] 4]) (L0:=[.box I [i6 r.Rise,i6 r.Fall,.slice D r.Days.length H,.slice U X.length O] 95,.row U O (X.map aC) 41 2,.box Y [.func (.func 90) #[] #[pq R]] 160,.box R [pq I] 91]) (Lf:=(oH (D_1::[])++Lf)) (encs:=fun x:(Int × Int)=>[i6 x.1,i6 x.2]) (fun (zz:(List aA)) L=>zz.length=X.length∧L=[.box I [i6 r.Rise,i6 r.Fall,.slice D r.Days.length H,.slice U zz.length O] 95,.row U O (zz.map aC) 41 2,.box Y [.func (.func 90) #[] #[pq R]] 160,.box R [pq I] 91]) (fun (zz:(List aA)) (ag:(Int × Int))=>eB N r X zz ag.1 ag.2) X b1 hf hc rfl aId (fun _=>rfl) rfl ⟨rfl,rfl⟩ ?_ ?_ ?_ ?_
    ·intro lq mq J L Lx w hy hQ hJ hc
     have a6:∀ (zz:(List aA)) (M:List Ent),(fun (zz:(List aA)) L=>zz.length=X.length∧L=[.box I [i6 r.Rise,i6 r.Fall,.slice D r.Days.length H,.slice U zz.length O] 95,.row U O (zz.map aC) 41 2,.box Y [.func (.func 90) #[] #[pq R]] 160,.box R [pq I] 91]) zz M→∃ A B,M=A++(.box I [i6 r.Rise,i6 r.Fall,.slice D r.Days.length H,.slice U X.length O] 95::B):=by
      rintro Z _ ⟨a0,rfl⟩
      try rw [show _=_ from a0]
      exact ⟨[],_,rfl⟩
     exact nW r.Rise r.Fall r.Days af d J _ hy _ hJ (hQ _ a6) hc ct
    ·clear hF hf hc
     rintro lq mq Z ⟨t,aq⟩ oq _ Lr Lb a w c7 ⟨a0,rfl⟩ hF hf hc hK
     replace hf:Has 118 a [(6,pq R),(9,pq Y),(79,i6 t),(80,i6 aq)]:=hf.kp rfl
     replace hc:Ctx G (.box I [i6 r.Rise,i6 r.Fall,.slice D r.Days.length H,.slice U Z.length O] 95::.row U O (Z.map aC) 41 2::.box Y [.func (.func 90) #[] #[pq R]] 160::.box R [pq I] 91::Lr) w:=hc
     replace hF:eB N r X Z t aq=some oq:=hF
     unfold eB at hF
     refine sX fun K19 c4=>oE (fun _ _ h=>h) rfl ?_
     refine sp 1 hf rfl fun a hf=>aP ?_
     refine c4 _ _ ?_
     refine oE (fun _ _ h=>h) rfl ?_
     refine sp 1 hf rfl fun a hf=>aP ?_
     refine hK _ _ [.box I [i6 r.Rise,i6 r.Fall,.slice D r.Days.length H,.slice U Z.length O] 95,.row U O (Z.map aC) 41 2,.box Y [.func (.func 90) #[] #[pq R]] 160,.box R [pq I] 91] hc fun w hc=>?_
     replace hc:Ctx G (.box I [i6 r.Rise,i6 r.Fall,.slice D r.Days.length H,.slice U Z.length O] 95::.row U O (Z.map aC) 41 2::.box Y [.func (.func 90) #[] #[pq R]] 160::.box R [pq I] 91::Lb) w:=hc
     refine wR fun K20 db=>wE ?_
     obtain ⟨bs,b8,hF⟩:=aB hF
     obtain ⟨z,rfl,cm,ci⟩:=gH hc m1 b8
     obtain ⟨bu,cq,hF⟩:=aB hF
     obtain ⟨cj,ck⟩:=kD hc m1 cq
     obtain ⟨a5,cr,hF⟩:=aB hF
     refine aAj (fun _ _ h=>h) rfl (fun θ=>(⟨none,none,6,pq R⟩::⟨none,none,9,pq Y⟩::⟨none,none,12,i6 t⟩::⟨none,none,13,i6 aq⟩::⟨some 0,none,81,.func (.func 90) #[] #[pq R]⟩::⟨some 1,none,82,i6 aq⟩::⟨some 2,none,83,pq I⟩::⟨some 3,none,84,pq I⟩::⟨some 4,none,85,.pointer (some ⟨I,3,none⟩)⟩::⟨some 5,none,86,.slice (some ⟨z,0,none⟩) Z.length O⟩::⟨some 6,none,87,i6 t⟩::⟨some 7,none,88,.pointer (some ⟨z,t.toNat * 2,none⟩)⟩::⟨some 8,none,89,.pointer (some ⟨z,t.toNat * 2 + 0,none⟩)⟩::⟨some 9,none,90,i6 bs.Lo⟩::⟨some 10,none,91,pq I⟩::⟨some 11,none,92,pq I⟩::⟨some 12,none,93,pq I⟩::⟨some 13,none,94,pq I⟩::⟨some 14,none,95,i6 r.Rise⟩::⟨some 15,none,96,i6 (W (bs.Lo - r.Rise))⟩::⟨some 16,none,97,pq I⟩::⟨some 17,none,98,pq I⟩::⟨some 18,none,99,.pointer (some ⟨I,3,none⟩)⟩::⟨some 19,none,100,.slice (some ⟨z,0,none⟩) Z.length O⟩::⟨some 20,none,101,i6 t⟩::⟨some 21,none,102,.pointer (some ⟨z,t.toNat * 2,none⟩)⟩::⟨some 22,none,103,.pointer (some ⟨z,t.toNat * 2 + 1,none⟩)⟩::⟨some 23,none,104,i6 bu.Hi⟩::⟨some 24,none,105,pq I⟩::⟨some 25,none,106,pq I⟩::⟨some 26,none,107,pq I⟩::⟨some 27,none,108,.pointer (some ⟨I,1,none⟩)⟩::⟨some 28,none,109,i6 r.Fall⟩::⟨some 29,none,110,i6 (W (bu.Hi + r.Fall))⟩::⟨some 30,none,111,.tuple #[]⟩::[])) (fun E θ=>(bif E 30 then .box I [i6 r.Rise,i6 r.Fall,.slice D r.Days.length H,.slice (some ⟨z,0,none⟩) a5.length O] 95 else .box I [i6 r.Rise,i6 r.Fall,.slice D r.Days.length H,.slice (some ⟨z,0,none⟩) Z.length O] 95)::(bif E 30 then .row (some ⟨z,0,none⟩) O (a5.map aC) 41 2 else .row (some ⟨z,0,none⟩) O (Z.map aC) 41 2)::.box Y [.func (.func 90) #[] #[pq R]] 160::.box R [pq I] 91::Lb) [(7,5),(8,7),(9,8),(15,9),(30,15),(15,14),(21,19),(22,21),(23,22),(29,23),(30,29),(29,28)] (fun a w=>Has 118 a [(6,pq R),(9,pq Y)]∧Ctx G (.box I [i6 r.Rise,i6 r.Fall,.slice D r.Days.length H,.slice (some ⟨z,0,none⟩) a5.length O] 95::.row (some ⟨z,0,none⟩) O (a5.map aC) 41 2::.box Y [.func (.func 90) #[] #[pq R]] 160::.box R [pq I] 91::Lb) w) aT (by kernel_rfl) (by kernel_rfl) (eZ.of hf ⟨rfl,rfl,rfl,rfl,trivial,trivial,trivial,trivial,trivial,trivial,trivial,trivial,trivial,trivial,trivial,trivial,trivial,trivial,trivial,trivial,trivial,trivial,trivial,trivial,trivial,trivial,trivial,trivial,trivial,trivial,trivial,trivial,trivial,trivial,trivial,trivial⟩) hc ⟨?_,?_,?_,?_,?_,?_,?_,?_,?_,?_,?_,?_,?_,?_,?_,?_,?_,?_,?_,?_,?_,?_,?_,?_,?_,?_,?_,?_,?_,?_,?_,trivial⟩ ?_ ?_
     ·intro E θ a w hD hi hp he hc
      have hf:=he.h0.mT he 1 rfl
      refine zL hf hc aI1 m2 rfl fun a w hf hc=>zD θ he hi hf 4 rfl rfl rfl hc
     ·intro E θ a w hD hi hp he hc
      have hf:=he.h0.mT he 3 rfl
      refine sp 1 hf rfl fun a hf=>zD θ he hi hf 5 rfl rfl rfl hc
     ·intro E θ a w hD hi hp he hc
      have hf:=he.h0.mT he 0 rfl
      refine zL hf hc nU m3 rfl fun a w hf hc=>zD θ he hi hf 6 rfl rfl rfl hc
     ·intro E θ a w hD hi hp he hc
      have e2:=hp.o 2 rfl
      have hf:=he.h0.mP he 6 rfl e2
      refine sp 1 hf rfl fun a hf=>zD θ he hi hf 7 rfl rfl rfl hc
     ·intro E θ a w hD hi hp he hc
      have e3:=hp.o 3 rfl
      have hf:=he.h0.mP he 7 rfl e3
      refine zP hf rfl (pFA kY rfl) fun a hf=>zD θ he hi hf 8 rfl rfl rfl hc
     ·intro E θ a w hD hi hp he hc
      have e4:=hp.o 4 rfl
      have e7:=hD.f 0 rfl hi
      have e8:=hD.f 1 rfl e7
      have e9:=hD.f 2 rfl e8
      have q:=hD.f 3 rfl e9
      have V:=hD.f 4 rfl q
      try dsimp only at hc
      rw [V] at hc
      have hf:=he.h0.mP he 8 rfl e4
      refine zL hf hc oW m0 rfl fun a w hf hc=>zD θ he hi hf 9 rfl rfl rfl ?_
      try dsimp only
      rw [aQ 5 V rfl]
      exact hc
     ·intro E θ a w hD hi hp he hc
      have hf:=he.h0.mT he 2 rfl
      refine sp 1 hf rfl fun a hf=>zD θ he hi hf 10 rfl rfl rfl hc
     ·intro E θ a w hD hi hp he hc
      have e5:=hp.o 5 rfl
      have e6:=hp.o 6 rfl
      have e8:=hD.f 1 rfl hi
      have e9:=hD.f 2 rfl e8
      have q:=hD.f 3 rfl e9
      have V:=hD.f 4 rfl q
      try dsimp only at hc
      rw [V] at hc
      have hf:=(he.h0.mP he 9 rfl e5).mP he 10 rfl e6
      refine zP hf rfl (pIA Tryz.underlying54 cA rfl rfl cm) fun a hf=>zD θ he hi hf 11 rfl rfl rfl ?_
      try dsimp only
      rw [aQ 7 V rfl]
      exact hc
     ·intro E θ a w hD hi hp he hc
      have e7:=hp.o 7 rfl
      have hf:=he.h0.mP he 11 rfl e7
      refine zP hf rfl (pFA dS rfl) fun a hf=>zD θ he hi hf 12 rfl rfl rfl hc
     ·intro E θ a w hD hi hp he hc
      have e8:=hp.o 8 rfl
      have q:=hD.f 3 rfl hi
      have V:=hD.f 4 rfl q
      try dsimp only at hc
      rw [V] at hc
      have hf:=he.h0.mP he 12 rfl e8
      refine zE hf hc rfl (cE aU rfl (dA (sz:=2) (i:=t.toNat) (j:=0) m1 ci rfl)) fun a w hf hc=>zD θ he hi hf 13 rfl rfl rfl ?_
      try dsimp only
      rw [aQ 9 V rfl]
      exact hc
     ·intro E θ a w hD hi hp he hc
      have hf:=he.h0.mT he 0 rfl
      refine zL hf hc nU m3 rfl fun a w hf hc=>zD θ he hi hf 14 rfl rfl rfl hc
     ·intro E θ a w hD hi hp he hc
      have a2:=hp.o 10 rfl
      have hf:=he.h0.mP he 14 rfl a2
      refine sp 1 hf rfl fun a hf=>zD θ he hi hf 15 rfl rfl rfl hc
     ·intro E θ a w hD hi hp he hc
      have ac:=hp.o 11 rfl
      have hf:=he.h0.mP he 15 rfl ac
      refine zP hf rfl (pFA sU rfl) fun a hf=>zD θ he hi hf 16 rfl rfl rfl hc
     ·intro E θ a w hD hi hp he hc
      have bk:=hp.o 12 rfl
      have hf:=he.h0.mP he 16 rfl bk
      refine zP hf rfl (pFA sV rfl) fun a hf=>zD θ he hi hf 17 rfl rfl rfl hc
     ·intro E θ a w hD hi hp he hc
      have bj:=hp.o 13 rfl
      have q:=hD.f 5 rfl hi
      have V:=hD.f 4 rfl q
      try dsimp only at hc
      rw [V] at hc
      have hf:=he.h0.mP he 17 rfl bj
      refine zL hf hc aU m0 rfl fun a w hf hc=>zD θ he hi hf 18 rfl rfl rfl ?_
      try dsimp only
      rw [aQ 14 V rfl]
      exact hc
     ·intro E θ a w hD hi hp he hc
      have e9:=hp.o 9 rfl
      have bf:=hp.o 14 rfl
      have hf:=(he.h0.mP he 13 rfl e9).mP he 18 rfl bf
      refine sp 1 hf rfl fun a hf=>zD θ he hi hf 19 rfl rfl rfl hc
     ·intro E θ a w hD hi hp he hc
      have hf:=he.h0.mT he 0 rfl
      refine zL hf hc nU m3 rfl fun a w hf hc=>zD θ he hi hf 20 rfl rfl rfl hc
     ·intro E θ a w hD hi hp he hc
      have bv:=hp.o 16 rfl
      have hf:=he.h0.mP he 20 rfl bv
      refine sp 1 hf rfl fun a hf=>zD θ he hi hf 21 rfl rfl rfl hc
     ·intro E θ a w hD hi hp he hc
      have b0:=hp.o 17 rfl
      have hf:=he.h0.mP he 21 rfl b0
      refine zP hf rfl (pFA kY rfl) fun a hf=>zD θ he hi hf 22 rfl rfl rfl hc
     ·intro E θ a w hD hi hp he hc
      have bi:=hp.o 18 rfl
      have au:=hD.f 6 rfl hi
      have aa:=hD.f 7 rfl au
      have ab:=hD.f 8 rfl aa
      have m:=hD.f 9 rfl ab
      have V:=hD.f 10 rfl m
      try dsimp only at hc
      rw [V] at hc
      have hf:=he.h0.mP he 22 rfl bi
      refine zL hf hc oW m0 rfl fun a w hf hc=>zD θ he hi hf 23 rfl rfl rfl ?_
      try dsimp only
      rw [aQ 19 V rfl]
      exact hc
     ·intro E θ a w hD hi hp he hc
      have hf:=he.h0.mT he 2 rfl
      refine sp 1 hf rfl fun a hf=>zD θ he hi hf 24 rfl rfl rfl hc
     ·intro E θ a w hD hi hp he hc
      have bt:=hp.o 19 rfl
      have bx:=hp.o 20 rfl
      have aa:=hD.f 7 rfl hi
      have ab:=hD.f 8 rfl aa
      have m:=hD.f 9 rfl ab
      have V:=hD.f 10 rfl m
      try dsimp only at hc
      rw [V] at hc
      have hf:=(he.h0.mP he 23 rfl bt).mP he 24 rfl bx
      refine zP hf rfl (pIA Tryz.underlying54 cA rfl rfl cj) fun a hf=>zD θ he hi hf 25 rfl rfl rfl ?_
      try dsimp only
      rw [aQ 21 V rfl]
      exact hc
     ·intro E θ a w hD hi hp he hc
      have au:=hp.o 21 rfl
      have hf:=he.h0.mP he 25 rfl au
      refine zP hf rfl (pFA dC rfl) fun a hf=>zD θ he hi hf 26 rfl rfl rfl hc
     ·intro E θ a w hD hi hp he hc
      have aa:=hp.o 22 rfl
      have m:=hD.f 9 rfl hi
      have V:=hD.f 10 rfl m
      try dsimp only at hc
      rw [V] at hc
      have hf:=he.h0.mP he 26 rfl aa
      refine zE hf hc rfl (cE aU rfl (dA (sz:=2) (i:=t.toNat) (j:=1) m1 ck rfl)) fun a w hf hc=>zD θ he hi hf 27 rfl rfl rfl ?_
      try dsimp only
      rw [aQ 23 V rfl]
      exact hc
     ·intro E θ a w hD hi hp he hc
      have hf:=he.h0.mT he 0 rfl
      refine zL hf hc nU m3 rfl fun a w hf hc=>zD θ he hi hf 28 rfl rfl rfl hc
     ·intro E θ a w hD hi hp he hc
      have bc:=hp.o 24 rfl
      have hf:=he.h0.mP he 28 rfl bc
      refine sp 1 hf rfl fun a hf=>zD θ he hi hf 29 rfl rfl rfl hc
     ·intro E θ a w hD hi hp he hc
      have b2:=hp.o 25 rfl
      have hf:=he.h0.mP he 29 rfl b2
      refine zP hf rfl (pFA sU rfl) fun a hf=>zD θ he hi hf 30 rfl rfl rfl hc
     ·intro E θ a w hD hi hp he hc
      have bn:=hp.o 26 rfl
      have hf:=he.h0.mP he 30 rfl bn
      refine zP hf rfl (pFA tF rfl) fun a hf=>zD θ he hi hf 31 rfl rfl rfl hc
     ·intro E θ a w hD hi hp he hc
      have br:=hp.o 27 rfl
      have m:=hD.f 11 rfl hi
      have V:=hD.f 10 rfl m
      try dsimp only at hc
      rw [V] at hc
      have hf:=he.h0.mP he 31 rfl br
      refine zL hf hc aU m0 rfl fun a w hf hc=>zD θ he hi hf 32 rfl rfl rfl ?_
      try dsimp only
      rw [aQ 28 V rfl]
      exact hc
     ·intro E θ a w hD hi hp he hc
      have ab:=hp.o 23 rfl
      have bg:=hp.o 28 rfl
      have hf:=(he.h0.mP he 27 rfl ab).mP he 32 rfl bg
      refine sp 1 hf rfl fun a hf=>zD θ he hi hf 33 rfl rfl rfl hc
     ·intro E θ a w hD hi hp he hc
      have e0:=hp.o 0 rfl
      have e1:=hp.o 1 rfl
      have q:=hp.o 15 rfl
      have m:=hp.o 29 rfl
      try dsimp only at hc
      rw [hi] at hc
      have hf:=(((he.h0.mP he 4 rfl e0).mP he 5 rfl e1).mP he 19 rfl q).mP he 33 rfl m
      refine zC hf aK2 rfl (rN aq (W (bs.Lo - r.Rise)) (W (bu.Hi + r.Fall)) r.Rise r.Fall r.Days Z d (((hc.pick k1).pick k1).pick k3) cr) ?_
      rintro _ w ⟨rfl,bp,hc⟩
      refine ⟨_,rfl,fun a hf=>?_⟩
      try rw [← bp] at hf
      try rw [← bp] at hc
      refine aP ?_
      refine eY ?_
      intro ds u ap
      replace hc:=(((hc.pick k0).pick k3).pick k3).pick k3
      refine ⟨θ,he.put0 hi ap hf rfl 34 rfl rfl,?_⟩
      try dsimp only
      rw [aR E 30]
      exact hc
     ·intro E θ a w ad he hc
      have hf:=he.h0
      have V:=ad 30 rfl
      replace hf:=hf.more he 1 rfl (onT)
      replace hf:=hf.more he 0 rfl (onT)
      try dsimp only at hc
      rw [V] at hc
      exact ⟨hf.kp rfl,hc⟩
     rintro a w ⟨hf,hc⟩
     refine db _ _ ?_
     obtain ⟨_,cc,hF⟩:=uI hF
     exact ⟨a5,_,(sj hF).symm,⟨cc,rfl⟩,hc⟩
    ·rintro D_2 Z _ a w ai ⟨a0,rfl⟩ hf hc
     replace hf:Has ⟨118,lY (D_2::(D_1::[]))⟩ a [(6,pq R),(9,pq Y)]:=hf.kp rfl
     replace hc:Ctx G (.box az [pq I] 91::.box av [.bool af] 4::.box I [i6 r.Rise,i6 r.Fall,.slice D r.Days.length H,.slice U Z.length O] 95::.row U O (Z.map aC) 41 2::.box Y [.func (.func 90) #[] #[pq R]] 160::.box R [pq I] 91::(oH (D_2::(D_1::[]))++Lf)) w:=nL (C:=[.box az [pq I] 91,.box av [.bool af] 4]) (L:=[.box I [i6 r.Rise,i6 r.Fall,.slice D r.Days.length H,.slice U Z.length O] 95,.row U O (Z.map aC) 41 2,.box Y [.func (.func 90) #[] #[pq R]] 160,.box R [pq I] 91]) hc
     replace hF:(Option.bind (dK N Z) fun a4=>some (.inr (r.Rise,r.Fall,Z,a4,0)))=some an:=by rcases ai with rfl | rfl <;> exact hF
     refine df _ _ ?_
     refine wp_seq_k fun K21 dd=>?_
     obtain ⟨a4,cn,hF⟩:=aB hF
     refine cQ hc aT (by kernel_rfl) ?_
     refine qE hf rfl rfl rfl (cE nU rfl (bR m5 rfl)) fun a hf=>qE hf rfl rfl rfl (cE nU rfl (bR m5 rfl)) fun a hf=>qE hf rfl rfl rfl (Pu.ev (pNC rfl)) fun a hf=>qE hf rfl rfl rfl (Pu.ev (pFA kY rfl)) fun a hf=>qE hf rfl rfl rfl (cE oW rfl (bR m2 rfl)) fun a hf=>qE hf rfl rfl rfl (eC (v:=.bool a4) (vs:=[.slice U Z.length O,.func (.func 92) #[] #[]]) (caps:=[]) aK1 rfl rfl rfl rfl (fun w hc=>by obtain ⟨G1,a1,aj,hc,ar⟩:=lend hc k3; exact (sB Z aj hc cn).mono fun e w h=>⟨h.1,((ar _ _ h.2).unpick k3)⟩)) fun a hf=>qE hf rfl rfl rfl (Pu.ev (pA rfl)) fun a hf=>qE hf rfl rfl rfl (Pu.ev (pA rfl)) fun a hf=>qE hf rfl rfl rfl (Pu.ev (pA rfl)) fun a hf=>?_
     intro w hc
     refine dd _ _ ?_
     refine wp_ret ?_
     obtain rfl:=sj hF
     replace hc:=(((((hc.drop k5).drop k4).drop k1).drop k0).pick k0).pick k1
     refine aA3 hf ?_
     refine zJ [.row U O (Z.map aC) 41 2,.box I [i6 r.Rise,i6 r.Fall,.slice D r.Days.length H,.slice U Z.length O] 95] (D_2::(D_1::[])) hc fun w hc=>?_
     replace hc:Ctx G (.row U O (Z.map aC) 41 2::.box I [i6 r.Rise,i6 r.Fall,.slice D r.Days.length H,.slice U Z.length O] 95::Lf) w:=hc
     exact aD0 Tryz.results66 hf hc (show dG _ 2=_ from rfl) (show dG _ 3=_ from rfl) (show dG _ 4=_ from rfl) ⟨I,U,O,rfl,hc⟩
    ·rintro D_2 Z _ a w ai ⟨a0,rfl⟩ hf hc
     replace hf:Has ⟨118,lY (D_2::(D_1::[]))⟩ a [(6,pq R),(9,pq Y)]:=hf.kp rfl
     replace hc:Ctx G (.box az [pq I] 91::.box av [.bool af] 4::.box I [i6 r.Rise,i6 r.Fall,.slice D r.Days.length H,.slice U Z.length O] 95::.row U O (Z.map aC) 41 2::.box Y [.func (.func 90) #[] #[pq R]] 160::.box R [pq I] 91::(oH (D_2::(D_1::[]))++Lf)) w:=nL (C:=[.box az [pq I] 91,.box av [.bool af] 4]) (L:=[.box I [i6 r.Rise,i6 r.Fall,.slice D r.Days.length H,.slice U Z.length O] 95,.row U O (Z.map aC) 41 2,.box Y [.func (.func 90) #[] #[pq R]] 160,.box R [pq I] 91]) hc
     replace hF:(none)=some an:=by subst ai; exact hF
     cases hF
   ·rintro D_1 X _ a w ai ⟨hl,rfl⟩ hf hc
    replace hf:Has ⟨118,lY (D_1::[])⟩ a [(6,pq R),(9,pq Y)]:=hf.kp rfl
    replace hc:Ctx G (.box ax [pq I] 91::.box ay [.bool am] 4::.box I [i6 r.Rise,i6 r.Fall,.slice D r.Days.length H,.slice U X.length O] 95::.row U O (X.map aC) 41 2::.box Y [.func (.func 90) #[] #[pq R]] 160::.box R [pq I] 91::(oH (D_1::[])++Lf)) w:=nL (C:=[.box ax [pq I] 91,.box ay [.bool am] 4]) (L:=[.box I [i6 r.Rise,i6 r.Fall,.slice D r.Days.length H,.slice U X.length O] 95,.row U O (X.map aC) 41 2,.box Y [.func (.func 90) #[] #[pq R]] 160,.box R [pq I] 91]) hc
    replace hF:(none)=some an:=by subst ai; exact hF
    cases hF
  have dj:∀ r,x9=.out r→r=an:=by
   rintro r rfl
   exact sj hF
  replace hc:=hc.nilRow 41 2
  replace hc:=hc.drop k3
  refine dO N (dH (S:=S9) (x:=x9) ?_ N (0,([]:List aA)) _ _ ⟨none,0,hf.kp rfl,hc⟩ c3)
  clear hF hf hc
  rintro ⟨x,k⟩ dk a w KB9 ⟨U,O,hf,hc⟩ hF a9 dg
  unfold gS at hF
  refine zS fun K h=>sp 1 hf rfl fun a hf=>zT h ?_
  refine wp_seq_k fun K23 c2=>zI hf rfl hF ?_ ?_ <;> clear hF <;> intro hF
  ·refine wp_skip ?_
   refine c2 _ _ ?_
   refine wp_seq_k fun K24 c1=>wp_block ?_
   refine zS fun K h=>?_
   obtain ⟨y,cd,hF⟩:=aB hF
   obtain ⟨dm,o,cu,qp⟩:=d.atm cd
   refine zP hf rfl (pIA Tryz.underlying37 vV rfl rfl cu) fun a hf=>zE hf hc rfl (jM (vs:=[.bool y.Known,i6 y.Flow.Lo,i6 y.Flow.Hi]) uN rfl rfl (cI qp (n:=3) (o':=0) rfl)) fun a w hf hc=>zA hf hc aEd rfl fun a7 a w hf hc=>zW hf hc vV u0 rfl fun w hc=>zT h ?_
   obtain ⟨s,ca,hF⟩:=aB hF
   obtain ⟨un,c6,hF⟩:=aB hF
   replace hc:=hc.nilRow 0 0
   refine fI (fun θ=>[⟨none,none,6,pq R⟩,⟨none,none,8,pq a7⟩,⟨none,none,23,.slice D r.Days.length H⟩,⟨none,none,24,i6 ((r.Days.length:Nat):Int)⟩,⟨none,none,25,i6 x⟩,⟨some 0,none,29,pq I⟩,⟨some 1,none,30,pq I⟩,⟨some 2,none,31,pq I⟩,⟨some 3,none,32,.pointer (some ⟨I,3,none⟩)⟩,⟨some 4,none,33,.slice U k.length O⟩,⟨some 5,none,34,.agg #[.bool y.Known,i6 y.Flow.Lo,i6 y.Flow.Hi]⟩,⟨some 6,none,35,.agg #[i6 s.Lo,i6 s.Hi]⟩,⟨some 7,none,36,.slice (some ⟨(θ 56).b,0,none⟩) 1 1⟩,⟨some 8,none,37,.slice ((θ 64).p) ((k++[s]).length) ((θ 64).c)⟩,⟨some 9,none,38,pq I⟩,⟨some 10,none,39,.pointer (some ⟨I,3,none⟩)⟩]) (fun E θ=>(bif E 7 then .row (some ⟨(θ 56).b,0,none⟩) 1 (([s]:List aA).map aC) 41 2 else .row none 0 [] 0 0)::.box a7 [.bool y.Known,i6 y.Flow.Lo,i6 y.Flow.Hi] 52::(bif E 8 then .row ((θ 64).p) ((θ 64).c) ((k++[s]).map aC) 41 2 else .row U O (k.map aC) 41 2)::.box R [pq I] 91::(bif E 11 then .box I [i6 r.Rise,i6 r.Fall,.slice D r.Days.length H,.slice ((θ 64).p) ((k++[s]).length) ((θ 64).c)] 95 else .box I [i6 r.Rise,i6 r.Fall,.slice D r.Days.length H,.slice U k.length O] 95)::Lf) [(11,4),(11,8)] (fun a w=>∃ (bz:Nat) (ba:Option Addr) (bb:Nat),Has 118 a [(6,pq R),(23,.slice D r.Days.length H),(24,i6 ((r.Days.length:Nat):Int)),(25,i6 x)]∧Ctx G (.row (some ⟨bz,0,none⟩) 1 (([s]:List aA).map aC) 41 2::.box a7 [.bool y.Known,i6 y.Flow.Lo,i6 y.Flow.Hi] 52::.row ba bb ((k++[s]).map aC) 41 2::.box R [pq I] 91::.box I [i6 r.Rise,i6 r.Fall,.slice D r.Days.length H,.slice ba ((k++[s]).length) bb] 95::Lf) w) aT (by kernel_rfl) (by kernel_rfl) (eZ.of hf ⟨rfl,rfl,rfl,rfl,rfl,trivial,trivial,trivial,trivial,trivial,trivial,trivial,trivial,trivial,trivial,trivial,trivial⟩) hc ⟨?_,?_,?_,?_,?_,?_,?_,?_,?_,?_,?_,?_,trivial⟩ ?_ ?_
   ·intro E θ a w hD hi hp he hc
    have hf:=he.h0.mT he 0 rfl
    refine zL hf hc nU m3 rfl fun a w hf hc=>zD θ he hi hf 5 rfl rfl rfl hc
   ·intro E θ a w hD hi hp he hc
    have hf:=he.h0.mT he 0 rfl
    refine zL hf hc nU m3 rfl fun a w hf hc=>zD θ he hi hf 6 rfl rfl rfl hc
   ·intro E θ a w hD hi hp he hc
    have e1:=hp.o 1 rfl
    have hf:=he.h0.mP he 6 rfl e1
    refine sp 1 hf rfl fun a hf=>zD θ he hi hf 7 rfl rfl rfl hc
   ·intro E θ a w hD hi hp he hc
    have e2:=hp.o 2 rfl
    have hf:=he.h0.mP he 7 rfl e2
    refine zP hf rfl (pFA kY rfl) fun a hf=>zD θ he hi hf 8 rfl rfl rfl hc
   ·intro E θ a w hD hi hp he hc
    have e3:=hp.o 3 rfl
    have ac:=hD.f 0 rfl hi
    try dsimp only at hc
    rw [ac] at hc
    have hf:=he.h0.mP he 8 rfl e3
    refine zL hf hc oW m4 rfl fun a w hf hc=>zD θ he hi hf 9 rfl rfl rfl ?_
    try dsimp only
    rw [aQ 4 ac rfl]
    exact hc
   ·intro E θ a w hD hi hp he hc
    have hf:=he.h0.mT he 1 rfl
    refine zN hf hc uN m1 rfl fun a w hf hc=>zD θ he hi hf 10 rfl rfl rfl hc
   ·intro E θ a w hD hi hp he hc
    have e5:=hp.o 5 rfl
    have hf:=he.h0.mP he 10 rfl e5
    refine zQ (v:=.agg #[i6 s.Lo,i6 s.Hi]) hf hc aFt rfl (fun w hc=>jO y hc ca) fun a w hf hc=>zD θ he hi hf 11 rfl rfl rfl hc
   ·intro E θ a w hD hi hp he hc
    have e6:=hp.o 6 rfl
    try dsimp only at hc
    rw [hi] at hc
    have hf:=he.h0.mP he 11 rfl e6
    refine mY (rows:=([s]:List aA).map aC) (vs:=[(0,.agg #[i6 s.Lo,i6 s.Hi])]) hf hc rfl rfl tR rfl ⟨rfl,rfl,rfl,trivial⟩ rfl rfl fun cy a w hf hc=>aP ?_
    refine eY ?_
    intro ds u ap
    replace hc:=hc.drop k1
    refine ⟨(qW θ 56 ⟨cy,none,0,(fun _=>(none,0))⟩),he.put hi ap hf rfl [] trivial ⟨qq,qq,qq,qq,qq,qq,qq,qq,qq,qq,qq,qq,qq,qq,qq,qq,trivial⟩,?_⟩
    try dsimp only
    rw [aR E 7]
    exact hc
   ·intro E θ a w hD hi hp he hc
    have e4:=hp.o 4 rfl
    have e7:=hp.o 7 rfl
    have ac:=hD.f 1 rfl hi
    try dsimp only at hc
    rw [e7,hi,ac] at hc
    have hf:=(he.h0.mP he 9 rfl e4).mP he 12 rfl e7
    refine nT (xs:=k) (ys:=([s]:List aA)) hf hc rfl rfl tR rfl rfl rfl rfl rfl eF (iL hc m0) (fun _ _=>u2) (by simpa using eR c6) fun dc cz a w hf hc=>aP ?_
    refine eY ?_
    intro ds u ap
    refine ⟨(qW θ 64 ⟨0,dc,cz,(fun _=>(none,0))⟩),he.put hi ap hf rfl [] trivial ⟨qq,qq,qq,qq,qq,qq,qq,qq,qq,qq,qq,qq,qq,qq,qq,qq,trivial⟩,?_⟩
    try dsimp only
    rw [cV 8 e7,aR E 8,aQ 8 ac rfl]
    exact hc
   ·intro E θ a w hD hi hp he hc
    have e0:=hp.o 0 rfl
    have hf:=he.h0.mP he 5 rfl e0
    refine sp 1 hf rfl fun a hf=>zD θ he hi hf 14 rfl rfl rfl hc
   ·intro E θ a w hD hi hp he hc
    have e9:=hp.o 9 rfl
    have hf:=he.h0.mP he 14 rfl e9
    refine zP hf rfl (pFA kY rfl) fun a hf=>zD θ he hi hf 15 rfl rfl rfl hc
   ·intro E θ a w hD hi hp he hc
    have e8:=hp.o 8 rfl
    have a2:=hp.o 10 rfl
    try dsimp only at hc
    rw [hi] at hc
    have hf:=(he.h0.mP he 13 rfl e8).mP he 15 rfl a2
    refine zW hf hc aK3 u4 rfl fun w hc=>zG θ he hi hf rfl ?_
    try dsimp only
    rw [aR E 11]
    exact hc
   ·intro E θ a w ad he hc
    have hf:=he.h0
    have e7:=ad 7 rfl
    have e8:=ad 8 rfl
    have ac:=ad 11 rfl
    replace hf:=hf.more he 4 rfl (onT)
    replace hf:=hf.more he 3 rfl (onT)
    replace hf:=hf.more he 2 rfl (onT)
    replace hf:=hf.more he 0 rfl (onT)
    try dsimp only at hc
    rw [e7,e8,ac] at hc
    exact ⟨(θ 56).b,(θ 64).p,(θ 64).c,hf.kp rfl,hc⟩
   rintro a w ⟨bz,ba,bb,hf,hc⟩
   refine c1 _ _ ?_
   refine dE ?_
   refine sp 2 hf rfl fun a hf=>aP ?_
   replace hc:=(hc.drop k1).drop k0
   exact dg (W (x + 1),(k++[s])) _ _ (sj hF).symm ⟨ba,bb,hf.kp rfl,hc⟩
  ·refine wp_exit ?_
   refine aV ?_
   refine aV ?_
   have he:=sj hF
   rw [← he] at a9
   refine eW ?_
   exact da _ _ _ a9 ⟨U,O,hf.kp rfl,hc⟩

def mE (N:Nat) (B:Int):Option ((Int) ⊕ (Int × Int × (List aA) × Int)) :=
 some (.inl B)
def mD (N:Nat) (B:Int × Int × (List aA) × Bool × Int) (D:Int):Option ((Int) ⊕ (Int × Int × (List aA) × Int)) :=
 some (.inr (B.1,B.2.1,B.2.2.1,D))
def gF (N:Nat) (r:aF):Option ((Int) ⊕ (Int × Int × (List aA) × Int)) :=
 Option.bind (kH N r) (yA (fun D=>cond ((D.2 == 0) && (!D.1))
 (mE N 7)
 (mE N D.2))
 (fun B=>cond ((B.2.2.2.2 == 0) && (!B.2.2.2.1))
 (mD N B 7)
 (mD N B B.2.2.2.2)))
theorem fV {N:Nat} {G:aS} {Lf:List Ent} {w:World} (r:aF) {H:Option Addr} {D:Nat} (J:Rd G 3 H D (r.Days.map aJ)) (hc:Ctx G (Lf) w) {M:(Int) ⊕ (Int × Int × (List aA) × Int)} (hF:gF N r=some M):Calls Tryz.prog 33 #[.agg #[i6 r.Rise,i6 r.Fall,.slice H r.Days.length D]] w (fun e w=>yA (fun rr=>e=.returned (.tuple #[.pointer none,i6 rr])∧Ctx G (Lf) w) (fun rr=>∃ (Z:Nat) (Y:Option Addr) (b:Nat),e=.returned (.tuple #[pq Z,i6 rr.2.2.2])∧Ctx G (.row Y b (rr.2.2.1.map aC) 41 2::.box Z [i6 rr.1,i6 rr.2.1,.slice H r.Days.length D,.slice Y rr.2.2.1.length b] 95::Lf) w) M):=by
 unfold gF at hF
 refine cB Tryz.func33 rfl Tryz.ntmps33 rfl fun a hf=>zS fun K h=>zB hf hc rfl fun j a w hf hc=>sp 2 hf rfl fun a hf=>zT h ?_
 refine zS fun K h=>zN hf hc qQ m0 rfl fun a w hf hc=>?_
 obtain ⟨I,R,hF⟩:=aB hF
 cases I with
 | inl I=>
  replace hF:=yX hF
  refine zC hf aKk rfl (tX r J hc R) ?_
  rintro _ w ⟨rfl,hc⟩
  refine ⟨_,rfl,fun a hf=>?_⟩
  refine sp 7 hf rfl fun a hf=>zT h ?_
  refine wp_seq_k fun K3 h3=>?_
  have d:∀ (S:Int) a w,Has 21 a [(4,.pointer none),(6,i6 S)]→Ctx G (Lf) w→mE N S=some M→K3 a w:=by
   repeat (clear hF)
   repeat (clear hc)
   repeat (clear hf)
   intro S a w hf hc hF
   unfold mE at hF
   refine h3 _ _ ?_
   refine zS fun K h=>sp 4 hf rfl fun a hf=>zT h ?_
   refine wp_ret ?_
   obtain rfl:=sj hF
   exact zO2 Tryz.results33 hf rfl rfl ⟨rfl,hc⟩
  refine zS fun K h=>sp 3 hf rfl fun a hf=>hY 3 (fun a=>Has 21 a [(4,.pointer none),(5,.bool I.1),(6,i6 I.2),(13,i6 I.2),(14,.bool (I.2 == 0)),(15,.bool (I.2 == 0)),(18,.bool ((I.2 == 0) && (!I.1)))]) hc ?_ ?_
  ·cases hb:(I.2 == 0)
   ·rw [hb] at hf
    refine stS hf rfl rfl rfl fun a hf=>stS hf rfl rfl rfl fun a hf=>sp 1 hf rfl fun a hf=>aP ⟨hf.kp rfl,hc⟩
   ·rw [hb] at hf
    refine sp 3 hf rfl fun a hf=>aP ⟨hf.kp rfl,hc⟩
  intro a w ⟨hf,hc⟩
  refine zT h ?_
  refine zI hf rfl hF ?_ ?_ <;> clear hF <;> intro hF
  ·refine dE ?_
   refine sp 1 hf rfl fun a hf=>aP ?_
   replace hc:=hc.drop k0
   exact d 7 _ _  (hf.kp rfl) hc hF
  ·refine wp_skip ?_
   replace hc:=hc.drop k0
   exact d I.2 _ _  (hf.kp rfl) hc hF
 | inr B=>
  replace hF:=yU hF
  have i:=R
  refine zC hf aKk rfl (tX r J hc i) ?_
  rintro _ w ⟨O,U,X,rfl,hc⟩
  refine ⟨_,rfl,fun a hf=>?_⟩
  refine sp 7 hf rfl fun a hf=>zT h ?_
  refine wp_seq_k fun K6 h6=>?_
  have g:∀ (V:Int) a w,Has 21 a [(4,pq O),(6,i6 V)]→Ctx G (.row U X (B.2.2.1.map aC) 41 2::.box O [i6 B.1,i6 B.2.1,.slice H r.Days.length D,.slice U B.2.2.1.length X] 95::Lf) w→mD N B V=some M→K6 a w:=by
   repeat (clear hF)
   repeat (clear hc)
   repeat (clear hf)
   intro V a w hf hc hF
   unfold mD at hF
   refine h6 _ _ ?_
   refine zS fun K h=>sp 4 hf rfl fun a hf=>zT h ?_
   refine wp_ret ?_
   obtain rfl:=sj hF
   exact zO2 Tryz.results33 hf rfl rfl ⟨O,U,X,rfl,hc⟩
  refine zS fun K h=>sp 3 hf rfl fun a hf=>hY 3 (fun a=>Has 21 a [(4,pq O),(5,.bool B.2.2.2.1),(6,i6 B.2.2.2.2),(13,i6 B.2.2.2.2),(14,.bool (B.2.2.2.2 == 0)),(15,.bool (B.2.2.2.2 == 0)),(18,.bool ((B.2.2.2.2 == 0) && (!B.2.2.2.1)))]) hc ?_ ?_
  ·cases hb:(B.2.2.2.2 == 0)
   ·rw [hb] at hf
    refine stS hf rfl rfl rfl fun a hf=>stS hf rfl rfl rfl fun a hf=>sp 1 hf rfl fun a hf=>aP ⟨hf.kp rfl,hc⟩
   ·rw [hb] at hf
    refine sp 3 hf rfl fun a hf=>aP ⟨hf.kp rfl,hc⟩
  intro a w ⟨hf,hc⟩
  refine zT h ?_
  refine zI hf rfl hF ?_ ?_ <;> clear hF <;> intro hF
  ·refine dE ?_
   refine sp 1 hf rfl fun a hf=>aP ?_
   replace hc:=hc.drop k2
   exact g 7 _ _  (hf.kp rfl) hc hF
  ·refine wp_skip ?_
   replace hc:=hc.drop k2
   exact g B.2.2.2.2 _ _  (hf.kp rfl) hc hF

def nX (N:Nat) (r:aF):Option ((List aA) × Int) :=
 Option.bind (gF N r) (yA (fun D=>cond (D != 0)
 (some (([]:List aA),D))
 (none))
 (fun B=>cond (B.2.2.2 != 0)
 (some (([]:List aA),B.2.2.2))
 (some (B.2.2.1,0))))
theorem vW {N:Nat} {G:aS} {Lf:List Ent} {w:World} (r:aF) {H:Option Addr} {D:Nat} (B:Rd G 3 H D (r.Days.map aJ)) (hc:Ctx G (Lf) w) {I:(List aA) × Int} (hF:nX N r=some I):Calls Tryz.prog 12 #[.agg #[i6 r.Rise,i6 r.Fall,.slice H r.Days.length D]] w (fun e w=>∃ (O:Option Addr) (M:Nat),e=.returned (.tuple #[.slice O I.1.length M,i6 I.2])∧Ctx G (.row O M (I.1.map aC) 41 2::Lf) w):=by
 unfold nX at hF
 refine cB Tryz.func12 rfl Tryz.ntmps12 rfl fun a hf=>zS fun K h=>zB hf hc rfl fun Y a w hf hc=>sp 2 hf rfl fun a hf=>zT h ?_
 refine zS fun K h=>zN hf hc qQ m0 rfl fun a w hf hc=>?_
 obtain ⟨R,J,hF⟩:=aB hF
 cases R with
 | inl R=>
  replace hF:=yX hF
  refine zC hf zF rfl (fV r B hc J) ?_
  rintro _ w ⟨rfl,hc⟩
  refine ⟨_,rfl,fun a hf=>?_⟩
  refine sp 5 hf rfl fun a hf=>zT h ?_
  refine wp_seq_k fun K3 h3=>zS fun K h=>sp 2 hf rfl fun a hf=>zT h ?_
  refine zI hf rfl hF ?_ ?_ <;> clear hF <;> intro hF
  ·refine zS fun K h=>sp 3 hf rfl fun a hf=>zT h ?_
   refine wp_ret ?_
   refine aO ?_
   obtain rfl:=sj hF
   replace hc:=hc.nilRow 41 2
   replace hc:=hc.drop k1
   exact zO2 Tryz.results12 hf rfl rfl ⟨none,0,rfl,hc⟩
  ·refine wp_skip ?_
   refine h3 _ _ ?_
   refine wp_seq_k fun K6 h6=>wX hF
 | inr X=>
  replace hF:=yU hF
  have S:=J
  refine zC hf zF rfl (fV r B hc S) ?_
  rintro _ w ⟨Z,V,U,rfl,hc⟩
  refine ⟨_,rfl,fun a hf=>?_⟩
  refine sp 5 hf rfl fun a hf=>zT h ?_
  refine wp_seq_k fun K7 h7=>zS fun K h=>sp 2 hf rfl fun a hf=>zT h ?_
  refine zI hf rfl hF ?_ ?_ <;> clear hF <;> intro hF
  ·refine zS fun K h=>sp 3 hf rfl fun a hf=>zT h ?_
   refine wp_ret ?_
   refine aO ?_
   obtain rfl:=sj hF
   replace hc:=hc.nilRow 41 2
   replace hc:=((hc.drop k3).drop k2).drop k1
   exact zO2 Tryz.results12 hf rfl rfl ⟨none,0,rfl,hc⟩
  ·refine wp_skip ?_
   refine h7 _ _ ?_
   refine zS fun K h=>sp 2 hf rfl fun a hf=>zP hf rfl (pFA kY rfl) fun a hf=>zL hf hc oW m1 rfl fun a w hf hc=>sp 2 hf rfl fun a hf=>zT h ?_
   refine wp_ret ?_
   obtain rfl:=sj hF
   replace hc:=(hc.drop k2).drop k1
   exact zO2 Tryz.results12 hf rfl rfl ⟨V,U,rfl,hc⟩

def aAy  : Unit :=
 ()
theorem rT {G:aS} {Lf:List Ent} {w:World}    (hc:Ctx G (Lf) w) {B:Unit} (hF:aAy=B):Calls Tryz.prog 36 #[] w (fun e w=>e=.returned (.agg #[.func (.func 70) #[] #[],.func (.func 71) #[] #[]])∧Ctx G (Lf) w):=by
 unfold aAy at hF
 refine cB Tryz.func36 rfl Tryz.ntmps36 rfl fun a hf=>zS fun K h=>zA hf hc aDa rfl fun D a w hf hc=>zT h ?_
 refine zS fun K h=>zP hf rfl (bH (cells:=[.func (.func 70) #[] #[]]) aKp rfl rfl) fun a hf=>zP hf rfl (bH (cells:=[.func (.func 71) #[] #[]]) aKp rfl rfl) fun a hf=>zP hf rfl (aI8 (cells:=[.func (.func 70) #[] #[],.func (.func 71) #[] #[]]) rfl (by rfl)) fun a hf=>zW hf hc aC8 u0 rfl fun w hc=>zT h ?_
 refine wp_ret ?_
 obtain rfl:=hF
 exact pH (by simp) rfl Tryz.results36 hf hc (cR (vs:=[.func (.func 70) #[] #[],.func (.func 71) #[] #[]]) aLz rfl rfl (bO (n:=2) m0 rfl)) ⟨rfl,(hc.drop k0)⟩

def gI (s_:aA):Int :=
 s_.Lo
theorem zX {G:aS} {Lf:List Ent} {w:World} (s_:aA)   (hc:Ctx G (Lf) w) {B:Int} (hF:gI s_=B):Calls Tryz.prog 70 #[.agg #[i6 s_.Lo,i6 s_.Hi]] w (fun e w=>e=.returned (i6 B)∧Ctx G (Lf) w):=by
 unfold gI at hF
 refine cB Tryz.func70 rfl Tryz.ntmps70 rfl fun a hf=>zS fun K h=>zB hf hc rfl fun D a w hf hc=>sp 1 hf rfl fun a hf=>zT h ?_
 refine zS fun K h=>zP hf rfl (pFA dS rfl) fun a hf=>zL hf hc aU m0 rfl fun a w hf hc=>sp 1 hf rfl fun a hf=>zT h ?_
 refine wp_ret ?_
 obtain rfl:=hF
 replace hc:=hc.drop k0
 exact zO1 Tryz.results70 hf rfl ⟨rfl,hc⟩

def jG (N:Nat) (l:List aA) (out:List Int) (x:Int):Option (cY ((List Int) × Int) ((List Int))) :=
 cond (decide (x < ((l.length:Nat):Int)))
 (Option.bind (bG l x) fun B=>
 Option.bind (pG ((out++[(gI B)])).length) fun un=>
 some (.cont ((out++[(gI B)]),W (x + 1))))
 (some (.brk (out,x)))
def oB (N:Nat) (l:List aA):Option ((List Int)) :=
 Option.bind (bE (fun s5=>jG N l s5.1 s5.2) N (([]:List Int),0)) fun x5=>
 exK x5 (fun s5=>some s5.1) some
theorem wB {N:Nat} {G:aS} {Lf:List Ent} {w:World} (l:List aA) {O:Option Addr} {M:Nat} (j:Rd G 2 O M (l.map aC)) (hc:Ctx G (Lf) w) {I:(List Int)} (hF:oB N l=some I):Calls Tryz.prog 38 #[.slice O l.length M,.agg #[.func (.func 70) #[] #[]]] w (fun e w=>∃ (R:Option Addr) (U:Nat),e=.returned (.slice R I.length U)∧Ctx G (.row R U (I.map aD) 3 1::Lf) w):=by
 unfold oB at hF
 refine cB Tryz.func38 rfl Tryz.ntmps38 rfl fun a hf=>zS fun K h=>zB hf hc rfl fun V a w hf hc=>sp 1 hf rfl fun a hf=>zT h ?_
 refine zS fun K h=>sp 1 hf rfl fun a hf=>zT h ?_
 refine wp_seq_k fun K3 h3=>zS fun K h=>sp 1 hf rfl fun a hf=>zP hf rfl (bM Tryz.underlying54 rfl) fun a hf=>sp 1 hf rfl fun a hf=>zT h ?_
 refine wp_block ?_
 obtain ⟨x5,Z,hF⟩:=aB hF
 let S5:((List Int) × Int)→Act→World→Prop:=(fun (zz:(List Int) × Int) a w=>∃ (D:Option Addr) (H:Nat),Has 23 a [(3,pq V),(5,.slice D zz.1.length H),(8,.slice O l.length M),(9,i6 ((l.length:Nat):Int)),(10,i6 zz.2)]∧Ctx G (.row D H (zz.1.map aD) 3 1::.box V [.func (.func 70) #[] #[]] 99::Lf) w)
 have b:∀ (zz:(List Int) × Int) a w,x5=.go zz→S5 zz a w→K3 a w:=by
  rintro ⟨out,x⟩ a w rfl ⟨D,H,hf,hc⟩
  replace hF:=bW hF
  refine h3 _ _ ?_
  refine zS fun K h=>sp 2 hf rfl fun a hf=>zT h ?_
  refine wp_ret ?_
  obtain rfl:=sj hF
  replace hc:=hc.drop k1
  exact zO1 Tryz.results38 hf rfl ⟨D,H,rfl,hc⟩
 have k:∀ r,x5=.out r→r=I:=by
  rintro r rfl
  exact sj hF
 replace hc:=hc.nilRow 3 1
 refine dO N (dH (S:=S5) (x:=x5) ?_ N (([]:List Int),0) _ _ ⟨none,0,hf.kp rfl,hc⟩ Z)
 clear hF hf hc
 rintro ⟨out,x⟩ q a w KB5 ⟨D,H,hf,hc⟩ hF J i
 unfold jG at hF
 refine zS fun K h=>sp 1 hf rfl fun a hf=>zT h ?_
 refine wp_seq_k fun K8 h8=>zI hf rfl hF ?_ ?_ <;> clear hF <;> intro hF
 ·refine wp_skip ?_
  refine h8 _ _ ?_
  refine wp_seq_k fun K9 h9=>wp_block ?_
  refine zS fun K h=>?_
  obtain ⟨B,X,hF⟩:=aB hF
  obtain ⟨s,o,qa,qp⟩:=j.atm X
  refine zP hf rfl (pIA Tryz.underlying54 cA rfl rfl qa) fun a hf=>zE hf hc rfl (jM (vs:=[i6 B.Lo,i6 B.Hi]) eA rfl rfl (cI qp (n:=2) (o':=0) rfl)) fun a w hf hc=>zA hf hc kX rfl fun p a w hf hc=>zW hf hc cA u0 rfl fun w hc=>zT h ?_
  refine dE ?_
  refine sp 1 hf rfl fun a hf=>zP hf rfl (pFA aF2 rfl) fun a hf=>zL hf hc aKz m2 rfl fun a w hf hc=>zN hf hc eA m0 rfl fun a w hf hc=>zQ (v:=i6 (gI B)) hf hc en_70 rfl (fun w hc=>zX B hc rfl) fun a w hf hc=>mY (rows:=([(gI B)]:List Int).map aD) (vs:=[(0,i6 (gI B))]) hf hc rfl rfl lD rfl ⟨rfl,rfl,rfl,trivial⟩ rfl rfl fun m a w hf hc=>?_
  obtain ⟨un,g,hF⟩:=aB hF
  refine nT (xs:=out) (ys:=([(gI B)]:List Int)) hf hc rfl rfl lD rfl rfl rfl rfl rfl bD (iL hc m0) (fun _ _=>u2) (by simpa using eR g) fun d Y a w hf hc=>sp 1 hf rfl fun a hf=>aP ?_
  refine h9 _ _ ?_
  refine dE ?_
  refine sp 2 hf rfl fun a hf=>aP ?_
  replace hc:=(hc.drop k1).drop k0
  exact i ((out++[(gI B)]),W (x + 1)) _ _ (sj hF).symm ⟨d,Y,hf.kp rfl,hc⟩
 ·refine wp_exit ?_
  refine aV ?_
  refine aV ?_
  have he:=sj hF
  rw [← he] at J
  refine eW ?_
  exact b _ _ _ J ⟨D,H,hf.kp rfl,hc⟩

def kE (N:Nat) (l:List Int) (out:Int) (x:Int):Option (cY (Int × Int) (Int)) :=
 cond (decide (x < ((l.length:Nat):Int)))
 (Option.bind (bG l x) fun B=>
 some (.cont (W (out + B),W (x + 1))))
 (some (.brk (out,x)))
def qF (N:Nat) (l:List Int):Option (Int) :=
 Option.bind (bE (fun s5=>kE N l s5.1 s5.2) N (0,0)) fun x5=>
 exK x5 (fun s5=>some s5.1) some
theorem xN {N:Nat} {G:aS} {Lf:List Ent} {w:World} (l:List Int) {I:Option Addr} {D:Nat} (V:Rd G 1 I D (l.map aD)) (hc:Ctx G (Lf) w) {H:Int} (hF:qF N l=some H):Calls Tryz.prog 37 #[.slice I l.length D] w (fun e w=>e=.returned (i6 H)∧Ctx G (Lf) w):=by
 unfold qF at hF
 refine cB Tryz.func37 rfl Tryz.ntmps37 rfl fun a hf=>zS fun K h=>sp 1 hf rfl fun a hf=>zT h ?_
 refine zS fun K h=>sp 1 hf rfl fun a hf=>zT h ?_
 refine wp_seq_k fun K3 h3=>zS fun K h=>sp 1 hf rfl fun a hf=>zP hf rfl (bM Tryz.underlying27 rfl) fun a hf=>sp 1 hf rfl fun a hf=>zT h ?_
 refine wp_block ?_
 obtain ⟨x5,M,hF⟩:=aB hF
 let S5:(Int × Int)→Act→World→Prop:=(fun (zz:Int × Int) a w=>Has 17 a [(3,i6 zz.1),(6,.slice I l.length D),(7,i6 ((l.length:Nat):Int)),(8,i6 zz.2)]∧Ctx G (Lf) w)
 have R:∀ (zz:Int × Int) a w,x5=.go zz→S5 zz a w→K3 a w:=by
  rintro ⟨out,x⟩ a w rfl ⟨hf,hc⟩
  replace hF:=bW hF
  refine h3 _ _ ?_
  refine zS fun K h=>sp 2 hf rfl fun a hf=>zT h ?_
  refine wp_ret ?_
  obtain rfl:=sj hF
  exact zO1 Tryz.results37 hf rfl ⟨rfl,hc⟩
 have Y:∀ r,x5=.out r→r=H:=by
  rintro r rfl
  exact sj hF
 refine dO N (dH (S:=S5) (x:=x5) ?_ N (0,0) _ _ ⟨hf.kp rfl,hc⟩ M)
 clear hF hf hc
 rintro ⟨out,x⟩ Z a w KB5 ⟨hf,hc⟩ hF B U
 unfold kE at hF
 refine zS fun K h=>sp 1 hf rfl fun a hf=>zT h ?_
 refine wp_seq_k fun K8 h8=>zI hf rfl hF ?_ ?_ <;> clear hF <;> intro hF
 ·refine wp_skip ?_
  refine h8 _ _ ?_
  refine wp_seq_k fun K9 h9=>wp_block ?_
  refine zS fun K h=>?_
  obtain ⟨O,J,hF⟩:=aB hF
  obtain ⟨X,o,qa,qp⟩:=V.atm J
  refine zP hf rfl (pIA Tryz.underlying27 eL rfl rfl qa) fun a hf=>zE hf hc rfl (cE aU rfl (dX (j:=0) qp rfl)) fun a w hf hc=>sp 1 hf rfl fun a hf=>zT h ?_
  refine dE ?_
  refine sp 4 hf rfl fun a hf=>aP ?_
  refine h9 _ _ ?_
  refine dE ?_
  refine sp 2 hf rfl fun a hf=>aP ?_
  exact U (W (out + O),W (x + 1)) _ _ (sj hF).symm ⟨hf.kp rfl,hc⟩
 ·refine wp_exit ?_
  refine aV ?_
  refine aV ?_
  have he:=sj hF
  rw [← he] at B
  refine eW ?_
  exact R _ _ _ B ⟨hf.kp rfl,hc⟩

def gJ (s_:aA):Int :=
 s_.Hi
theorem zY {G:aS} {Lf:List Ent} {w:World} (s_:aA)   (hc:Ctx G (Lf) w) {B:Int} (hF:gJ s_=B):Calls Tryz.prog 71 #[.agg #[i6 s_.Lo,i6 s_.Hi]] w (fun e w=>e=.returned (i6 B)∧Ctx G (Lf) w):=by
 unfold gJ at hF
 refine cB Tryz.func71 rfl Tryz.ntmps71 rfl fun a hf=>zS fun K h=>zB hf hc rfl fun D a w hf hc=>sp 1 hf rfl fun a hf=>zT h ?_
 refine zS fun K h=>zP hf rfl (pFA dC rfl) fun a hf=>zL hf hc aU m0 rfl fun a w hf hc=>sp 1 hf rfl fun a hf=>zT h ?_
 refine wp_ret ?_
 obtain rfl:=hF
 replace hc:=hc.drop k0
 exact zO1 Tryz.results71 hf rfl ⟨rfl,hc⟩

def gD (N:Nat) (l:List aA) (out:List Int) (x:Int):Option (cY ((List Int) × Int) ((List Int))) :=
 cond (decide (x < ((l.length:Nat):Int)))
 (Option.bind (bG l x) fun B=>
 Option.bind (pG ((out++[(gJ B)])).length) fun un=>
 some (.cont ((out++[(gJ B)]),W (x + 1))))
 (some (.brk (out,x)))
def kV (N:Nat) (l:List aA):Option ((List Int)) :=
 Option.bind (bE (fun s5=>gD N l s5.1 s5.2) N (([]:List Int),0)) fun x5=>
 exK x5 (fun s5=>some s5.1) some
theorem rV {N:Nat} {G:aS} {Lf:List Ent} {w:World} (l:List aA) {O:Option Addr} {M:Nat} (j:Rd G 2 O M (l.map aC)) (hc:Ctx G (Lf) w) {I:(List Int)} (hF:kV N l=some I):Calls Tryz.prog 38 #[.slice O l.length M,.agg #[.func (.func 71) #[] #[]]] w (fun e w=>∃ (R:Option Addr) (U:Nat),e=.returned (.slice R I.length U)∧Ctx G (.row R U (I.map aD) 3 1::Lf) w):=by
 unfold kV at hF
 refine cB Tryz.func38 rfl Tryz.ntmps38 rfl fun a hf=>zS fun K h=>zB hf hc rfl fun V a w hf hc=>sp 1 hf rfl fun a hf=>zT h ?_
 refine zS fun K h=>sp 1 hf rfl fun a hf=>zT h ?_
 refine wp_seq_k fun K3 h3=>zS fun K h=>sp 1 hf rfl fun a hf=>zP hf rfl (bM Tryz.underlying54 rfl) fun a hf=>sp 1 hf rfl fun a hf=>zT h ?_
 refine wp_block ?_
 obtain ⟨x5,Z,hF⟩:=aB hF
 let S5:((List Int) × Int)→Act→World→Prop:=(fun (zz:(List Int) × Int) a w=>∃ (D:Option Addr) (H:Nat),Has 23 a [(3,pq V),(5,.slice D zz.1.length H),(8,.slice O l.length M),(9,i6 ((l.length:Nat):Int)),(10,i6 zz.2)]∧Ctx G (.row D H (zz.1.map aD) 3 1::.box V [.func (.func 71) #[] #[]] 99::Lf) w)
 have b:∀ (zz:(List Int) × Int) a w,x5=.go zz→S5 zz a w→K3 a w:=by
  rintro ⟨out,x⟩ a w rfl ⟨D,H,hf,hc⟩
  replace hF:=bW hF
  refine h3 _ _ ?_
  refine zS fun K h=>sp 2 hf rfl fun a hf=>zT h ?_
  refine wp_ret ?_
  obtain rfl:=sj hF
  replace hc:=hc.drop k1
  exact zO1 Tryz.results38 hf rfl ⟨D,H,rfl,hc⟩
 have k:∀ r,x5=.out r→r=I:=by
  rintro r rfl
  exact sj hF
 replace hc:=hc.nilRow 3 1
 refine dO N (dH (S:=S5) (x:=x5) ?_ N (([]:List Int),0) _ _ ⟨none,0,hf.kp rfl,hc⟩ Z)
 clear hF hf hc
 rintro ⟨out,x⟩ q a w KB5 ⟨D,H,hf,hc⟩ hF J i
 unfold gD at hF
 refine zS fun K h=>sp 1 hf rfl fun a hf=>zT h ?_
 refine wp_seq_k fun K8 h8=>zI hf rfl hF ?_ ?_ <;> clear hF <;> intro hF
 ·refine wp_skip ?_
  refine h8 _ _ ?_
  refine wp_seq_k fun K9 h9=>wp_block ?_
  refine zS fun K h=>?_
  obtain ⟨B,X,hF⟩:=aB hF
  obtain ⟨s,o,qa,qp⟩:=j.atm X
  refine zP hf rfl (pIA Tryz.underlying54 cA rfl rfl qa) fun a hf=>zE hf hc rfl (jM (vs:=[i6 B.Lo,i6 B.Hi]) eA rfl rfl (cI qp (n:=2) (o':=0) rfl)) fun a w hf hc=>zA hf hc kX rfl fun p a w hf hc=>zW hf hc cA u0 rfl fun w hc=>zT h ?_
  refine dE ?_
  refine sp 1 hf rfl fun a hf=>zP hf rfl (pFA aF2 rfl) fun a hf=>zL hf hc aKz m2 rfl fun a w hf hc=>zN hf hc eA m0 rfl fun a w hf hc=>zQ (v:=i6 (gJ B)) hf hc en_71 rfl (fun w hc=>zY B hc rfl) fun a w hf hc=>mY (rows:=([(gJ B)]:List Int).map aD) (vs:=[(0,i6 (gJ B))]) hf hc rfl rfl lD rfl ⟨rfl,rfl,rfl,trivial⟩ rfl rfl fun m a w hf hc=>?_
  obtain ⟨un,g,hF⟩:=aB hF
  refine nT (xs:=out) (ys:=([(gJ B)]:List Int)) hf hc rfl rfl lD rfl rfl rfl rfl rfl bD (iL hc m0) (fun _ _=>u2) (by simpa using eR g) fun d Y a w hf hc=>sp 1 hf rfl fun a hf=>aP ?_
  refine h9 _ _ ?_
  refine dE ?_
  refine sp 2 hf rfl fun a hf=>aP ?_
  replace hc:=(hc.drop k1).drop k0
  exact i ((out++[(gJ B)]),W (x + 1)) _ _ (sj hF).symm ⟨d,Y,hf.kp rfl,hc⟩
 ·refine wp_exit ?_
  refine aV ?_
  refine aV ?_
  have he:=sj hF
  rw [← he] at J
  refine eW ?_
  exact b _ _ _ J ⟨D,H,hf.kp rfl,hc⟩

def iW (N:Nat) (r:aF) (B:Int) (H:Int):Option (aA × Int) :=
 Option.bind (iU N r) fun J=>
 cond (J != 0)
 (some ((⟨0,0⟩:aA),J))
 (cond ((!(bL B 0 H)) || (decide (((r.Days.length:Nat):Int)≤H)))
 (some ((⟨0,0⟩:aA),2))
 (Option.bind (gF N r) (yA (fun I=>cond (I != 0)
 (some ((⟨0,0⟩:aA),I))
 (none))
 (fun D=>cond (D.2.2.2 != 0)
 (some ((⟨0,0⟩:aA),D.2.2.2))
 (Option.bind (qX D.2.2.1 B (W (H + 1))) fun sub=>
 Option.bind (oB N sub) fun M=>
 Option.bind (qF N M) fun O=>
 Option.bind (kV N sub) fun R=>
 Option.bind (qF N R) fun S=>
 some ((⟨O,S⟩:aA),0))))))
theorem tN {N:Nat} {G:aS} {Lf:List Ent} {w:World} (r:aF) (B:Int) (M:Int) {H:Option Addr} {D:Nat} (V:Rd G 3 H D (r.Days.map aJ)) (hc:Ctx G (Lf) w) {s:aA × Int} (hF:iW N r B M=some s):Calls Tryz.prog 13 #[.agg #[i6 r.Rise,i6 r.Fall,.slice H r.Days.length D],i6 B,i6 M] w (fun e w=>e=.returned (.tuple #[.agg #[i6 s.1.Lo,i6 s.1.Hi],i6 s.2])∧Ctx G (Lf) w):=by
 unfold iW at hF
 refine cB Tryz.func13 rfl Tryz.ntmps13 rfl fun a hf=>zS fun K h=>zB hf hc rfl fun k a w hf hc=>zA hf hc kX rfl fun S a w hf hc=>sp 1 hf rfl fun a hf=>zT h ?_
 refine wp_seq_k fun K2 h2=>zS fun K h=>zN hf hc qQ m1 rfl fun a w hf hc=>?_
 obtain ⟨aq,ag,hF⟩:=aB hF
 refine zQ (v:=i6 aq) hf hc aDh rfl (fun w hc=>lJ r V hc ag) fun a w hf hc=>sp 1 hf rfl fun a hf=>zT h ?_
 refine zS fun K h=>sp 2 hf rfl fun a hf=>zT h ?_
 refine zI hf rfl hF ?_ ?_ <;> clear hF <;> intro hF
 ·refine zS fun K h=>zP hf rfl (bH (cells:=[i6 0,i6 0]) iY rfl rfl) fun a hf=>sp 1 hf rfl fun a hf=>zW hf hc cA u0 rfl fun w hc=>sp 1 hf rfl fun a hf=>zT h ?_
  refine wp_ret ?_
  refine aO ?_
  obtain rfl:=sj hF
  replace hc:=hc.drop k1
  exact nQ (by simp) rfl Tryz.results13 hf hc (cR (vs:=[i6 0,i6 0]) eA rfl rfl (bO (n:=2) m0 rfl)) (show dG _ 7=_ from rfl) ⟨rfl,(hc.drop k0)⟩
 ·refine wp_skip ?_
  refine h2 _ _ ?_
  refine wp_seq_k fun K6 h6=>zS fun K h=>sp 2 hf rfl fun a hf=>zQ (v:=.bool (bL B 0 M)) hf hc vE rfl (fun w hc=>gN B 0 M hc rfl) fun a w hf hc=>sp 2 hf rfl fun a hf=>hY 6 (fun a=>Has 60 a [(1,i6 B),(2,i6 M),(3,pq k),(6,pq S),(19,i6 B),(20,i6 M),(21,.bool (bL B 0 M)),(22,.bool (!(bL B 0 M))),(23,.bool (!(bL B 0 M))),(29,.bool ((!(bL B 0 M)) || (decide (((r.Days.length:Nat):Int)≤M))))]) hc ?_ ?_
  ·cases hb:(!(bL B 0 M))
   ·rw [hb] at hf
    refine sp 1 hf rfl fun a hf=>zP hf rfl (pFA kZ rfl) fun a hf=>zL hf hc sN m1 rfl fun a w hf hc=>zP hf rfl (bM Tryz.underlying37 rfl) fun a hf=>sp 2 hf rfl fun a hf=>aP ⟨hf.kp rfl,hc⟩
   ·rw [hb] at hf
    refine stS hf rfl rfl rfl fun a hf=>stS hf rfl rfl rfl fun a hf=>stS hf rfl rfl rfl fun a hf=>stS hf rfl rfl rfl fun a hf=>stS hf rfl rfl rfl fun a hf=>sp 1 hf rfl fun a hf=>aP ⟨hf.kp rfl,hc⟩
  intro a w ⟨hf,hc⟩
  refine zT h ?_
  refine zI hf rfl hF ?_ ?_ <;> clear hF <;> intro hF
  ·refine zS fun K h=>zP hf rfl (bH (cells:=[i6 0,i6 0]) iY rfl rfl) fun a hf=>zW hf hc cA u0 rfl fun w hc=>sp 1 hf rfl fun a hf=>zT h ?_
   refine wp_ret ?_
   refine aO ?_
   obtain rfl:=sj hF
   replace hc:=hc.drop k1
   exact nQ (by simp) rfl Tryz.results13 hf hc (cR (vs:=[i6 0,i6 0]) eA rfl rfl (bO (n:=2) m0 rfl)) (show dG _ 7=_ from rfl) ⟨rfl,(hc.drop k0)⟩
  ·refine wp_skip ?_
   refine h6 _ _ ?_
   refine zS fun K h=>zN hf hc qQ m1 rfl fun a w hf hc=>?_
   obtain ⟨ac,z,hF⟩:=aB hF
   cases ac with
   | inl ac=>
    replace hF:=yX hF
    refine zC hf zF rfl (fV r V hc z) ?_
    rintro _ w ⟨rfl,hc⟩
    refine ⟨_,rfl,fun a hf=>?_⟩
    refine sp 5 hf rfl fun a hf=>zT h ?_
    refine wp_seq_k fun K10 ar=>zS fun K h=>sp 2 hf rfl fun a hf=>zT h ?_
    refine zI hf rfl hF ?_ ?_ <;> clear hF <;> intro hF
    ·refine zS fun K h=>zP hf rfl (bH (cells:=[i6 0,i6 0]) iY rfl rfl) fun a hf=>sp 1 hf rfl fun a hf=>zW hf hc cA u0 rfl fun w hc=>sp 1 hf rfl fun a hf=>zT h ?_
     refine wp_ret ?_
     refine aO ?_
     obtain rfl:=sj hF
     replace hc:=hc.drop k1
     exact nQ (by simp) rfl Tryz.results13 hf hc (cR (vs:=[i6 0,i6 0]) eA rfl rfl (bO (n:=2) m0 rfl)) (show dG _ 7=_ from rfl) ⟨rfl,(hc.drop k0)⟩
    ·refine wp_skip ?_
     refine ar _ _ ?_
     refine wp_seq_k fun K13 a3=>wX hF
   | inr J=>
    replace hF:=yU hF
    have an:=z
    refine zC hf zF rfl (fV r V hc an) ?_
    rintro _ w ⟨Z,O,I,rfl,hc⟩
    refine ⟨_,rfl,fun a hf=>?_⟩
    refine sp 5 hf rfl fun a hf=>zT h ?_
    refine wp_seq_k fun K14 a2=>zS fun K h=>sp 2 hf rfl fun a hf=>zT h ?_
    refine zI hf rfl hF ?_ ?_ <;> clear hF <;> intro hF
    ·refine zS fun K h=>zP hf rfl (bH (cells:=[i6 0,i6 0]) iY rfl rfl) fun a hf=>sp 1 hf rfl fun a hf=>zW hf hc cA u2 rfl fun w hc=>sp 1 hf rfl fun a hf=>zT h ?_
     refine wp_ret ?_
     refine aO ?_
     obtain rfl:=sj hF
     replace hc:=((hc.drop k3).drop k1).drop k0
     exact nQ (by simp) rfl Tryz.results13 hf hc (cR (vs:=[i6 0,i6 0]) eA rfl rfl (bO (n:=2) m0 rfl)) (show dG _ 7=_ from rfl) ⟨rfl,(hc.drop k0)⟩
    ·refine wp_skip ?_
     refine a2 _ _ ?_
     refine wp_seq_k fun K17 av=>?_
     have qc:=aJl hc m0
     obtain ⟨sub,q,hF⟩:=aB hF
     replace hc:=hc.nilRow 0 0
     refine fI (fun θ=>[⟨none,none,1,i6 B⟩,⟨none,none,2,i6 M⟩,⟨none,none,6,pq S⟩,⟨none,none,9,pq Z⟩,⟨some 0,none,40,pq Z⟩,⟨some 1,none,41,pq Z⟩,⟨some 2,none,42,.pointer (some ⟨Z,3,none⟩)⟩,⟨some 3,none,43,.slice O J.2.2.1.length I⟩,⟨some 4,none,44,i6 B⟩,⟨some 5,none,45,i6 M⟩,⟨some 6,none,46,i6 (W (M + 1))⟩,⟨some 7,none,47,.slice (uX O I B.toNat 2) sub.length (I - B.toNat)⟩,⟨some 8,none,48,.agg #[.func (.func 70) #[] #[],.func (.func 71) #[] #[]]⟩,⟨some 9,none,12,.pointer (some ⟨(θ 72).b,0,none⟩)⟩,⟨some 10,none,11,.slice (uX O I B.toNat 2) sub.length (I - B.toNat)⟩]) (fun E θ=>(bif E 11 then .box (θ 72).b [.func (.func 70) #[] #[],.func (.func 71) #[] #[]] 100 else bif E 9 then .box (θ 72).b [.nilFunc,.nilFunc] 100 else .row none 0 [] 0 0)::.row O I (J.2.2.1.map aC) 41 2::.box Z [i6 J.1,i6 J.2.1,.slice H r.Days.length D,.slice O J.2.2.1.length I] 95::.box S [i6 0,i6 0] 41::.box k [i6 r.Rise,i6 r.Fall,.slice H r.Days.length D] 39::Lf) [(11,9)] (fun a w=>∃ (Y:Nat),Has 60 a [(6,pq S),(12,pq Y),(11,.slice (uX O I B.toNat 2) sub.length (I - B.toNat))]∧Ctx G (.box Y [.func (.func 70) #[] #[],.func (.func 71) #[] #[]] 100::.row O I (J.2.2.1.map aC) 41 2::.box Z [i6 J.1,i6 J.2.1,.slice H r.Days.length D,.slice O J.2.2.1.length I] 95::.box S [i6 0,i6 0] 41::.box k [i6 r.Rise,i6 r.Fall,.slice H r.Days.length D] 39::Lf) w) aT (by kernel_rfl) (by kernel_rfl) (eZ.of hf ⟨rfl,rfl,rfl,rfl,trivial,trivial,trivial,trivial,trivial,trivial,trivial,trivial,trivial,trivial,trivial,trivial⟩) hc ⟨?_,?_,?_,?_,?_,?_,?_,?_,?_,?_,?_,?_,trivial⟩ ?_ ?_
     ·intro E θ a w hD hi hp he hc
      have hf:=he.h0.mT he 3 rfl
      refine sp 1 hf rfl fun a hf=>zD θ he hi hf 4 rfl rfl rfl hc
     ·intro E θ a w hD hi hp he hc
      have e0:=hp.o 0 rfl
      have hf:=he.h0.mP he 4 rfl e0
      refine sp 1 hf rfl fun a hf=>zD θ he hi hf 5 rfl rfl rfl hc
     ·intro E θ a w hD hi hp he hc
      have e1:=hp.o 1 rfl
      have hf:=he.h0.mP he 5 rfl e1
      refine zP hf rfl (pFA kY rfl) fun a hf=>zD θ he hi hf 6 rfl rfl rfl hc
     ·intro E θ a w hD hi hp he hc
      have e2:=hp.o 2 rfl
      have hf:=he.h0.mP he 6 rfl e2
      refine zL hf hc oW m2 rfl fun a w hf hc=>zD θ he hi hf 7 rfl rfl rfl hc
     ·intro E θ a w hD hi hp he hc
      have hf:=he.h0.mT he 0 rfl
      refine sp 1 hf rfl fun a hf=>zD θ he hi hf 8 rfl rfl rfl hc
     ·intro E θ a w hD hi hp he hc
      have hf:=he.h0.mT he 1 rfl
      refine sp 1 hf rfl fun a hf=>zD θ he hi hf 9 rfl rfl rfl hc
     ·intro E θ a w hD hi hp he hc
      have e5:=hp.o 5 rfl
      have hf:=he.h0.mP he 9 rfl e5
      refine sp 1 hf rfl fun a hf=>zD θ he hi hf 10 rfl rfl rfl hc
     ·intro E θ a w hD hi hp he hc
      have e3:=hp.o 3 rfl
      have e4:=hp.o 4 rfl
      have e6:=hp.o 6 rfl
      have hf:=((he.h0.mP he 7 rfl e3).mP he 8 rfl e4).mP he 10 rfl e6
      refine zP hf rfl (pSl Tryz.underlying54 cA rfl rfl qc rfl rfl q) fun a hf=>zD θ he hi hf 11 rfl rfl rfl hc
     ·intro E θ a w hD hi hp he hc
      have hf:=he.h0
      refine zQ (v:=.agg #[.func (.func 70) #[] #[],.func (.func 71) #[] #[]]) hf hc aHv rfl (fun w hc=>rT hc rfl) fun a w hf hc=>zD θ he hi hf 12 rfl rfl rfl hc
     ·intro E θ a w hD hi hp he hc
      have i:=hD.f 0 rfl hi
      try dsimp only at hc
      rw [hi,i] at hc
      have hf:=he.h0
      refine zA hf hc aDa rfl fun a1 a w hf hc=>aP ?_
      refine eY ?_
      intro ds u j
      replace hc:=hc.drop k1
      refine ⟨(qW θ 72 ⟨a1,none,0,(fun _=>(none,0))⟩),he.put hi j hf rfl [] trivial ⟨qq,qq,qq,qq,qq,qq,qq,qq,qq,qq,qq,qq,qq,qq,qq,trivial⟩,?_⟩
      try dsimp only
      rw [aR E 9,aQ 9 i rfl]
      exact hc
     ·intro E θ a w hD hi hp he hc
      have e7:=hp.o 7 rfl
      have hf:=he.h0.mP he 11 rfl e7
      refine sp 1 hf rfl fun a hf=>zD θ he hi hf 14 rfl rfl rfl hc
     ·intro E θ a w hD hi hp he hc
      have e8:=hp.o 8 rfl
      have e9:=hp.o 9 rfl
      try dsimp only at hc
      rw [e9,hi] at hc
      have hf:=(he.h0.mP he 12 rfl e8).mP he 13 rfl e9
      refine zW hf hc aC8 u0 rfl fun w hc=>zG θ he hi hf rfl ?_
      try dsimp only
      rw [cV 11 e9,aR E 11]
      exact hc
     ·intro E θ a w R he hc
      have hf:=he.h0
      have e9:=R 9 rfl
      have y:=R 10 rfl
      have i:=R 11 rfl
      replace hf:=hf.more he 14 rfl (onP y)
      replace hf:=hf.more he 13 rfl (onP e9)
      replace hf:=hf.more he 2 rfl (onT)
      try dsimp only at hc
      rw [e9,i] at hc
      exact ⟨(θ 72).b,hf.kp rfl,hc⟩
     rintro a w ⟨Y,hf,hc⟩
     refine av _ _ ?_
     refine wp_seq_k fun K18 au=>?_
     obtain ⟨t,ak,hF⟩:=aB hF
     obtain ⟨d,aj,hF⟩:=aB hF
     obtain ⟨x,ai,hF⟩:=aB hF
     obtain ⟨g,am,hF⟩:=aB hF
     replace hc:=hc.nilRow 0 0
     replace hc:=hc.nilRow 0 0
     refine fI (fun θ=>[⟨none,none,6,pq S⟩,⟨none,none,11,.slice (uX O I B.toNat 2) sub.length (I - B.toNat)⟩,⟨none,none,12,pq Y⟩,⟨some 0,none,49,.slice (uX O I B.toNat 2) sub.length (I - B.toNat)⟩,⟨some 1,none,50,pq Y⟩,⟨some 2,none,51,.agg #[.func (.func 70) #[] #[]]⟩,⟨some 3,none,52,.slice ((θ 24).p) t.length ((θ 24).c)⟩,⟨some 4,none,53,i6 d⟩,⟨some 5,none,54,.slice (uX O I B.toNat 2) sub.length (I - B.toNat)⟩,⟨some 6,none,55,.pointer (some ⟨Y,1,none⟩)⟩,⟨some 7,none,56,.agg #[.func (.func 71) #[] #[]]⟩,⟨some 8,none,57,.slice ((θ 64).p) x.length ((θ 64).c)⟩,⟨some 9,none,58,i6 g⟩,⟨some 10,none,59,.agg #[i6 d,i6 g]⟩,⟨some 12,none,7,i6 0⟩]) (fun E θ=>(bif E 8 then .row ((θ 64).p) ((θ 64).c) (x.map aD) 3 1 else .row none 0 [] 0 0)::(bif E 3 then .row ((θ 24).p) ((θ 24).c) (t.map aD) 3 1 else .row none 0 [] 0 0)::.box Y [.func (.func 70) #[] #[],.func (.func 71) #[] #[]] 100::.row O I (J.2.2.1.map aC) 41 2::.box Z [i6 J.1,i6 J.2.1,.slice H r.Days.length D,.slice O J.2.2.1.length I] 95::(bif E 11 then .box S [i6 d,i6 g] 41 else .box S [i6 0,i6 0] 41)::.box k [i6 r.Rise,i6 r.Fall,.slice H r.Days.length D] 39::Lf) [] (fun a w=>∃ (ad:Option Addr) (ab:Nat) (af:Option Addr) (aa:Nat),Has 60 a [(6,pq S),(7,i6 0)]∧Ctx G (.row ad ab (x.map aD) 3 1::.row af aa (t.map aD) 3 1::.box Y [.func (.func 70) #[] #[],.func (.func 71) #[] #[]] 100::.row O I (J.2.2.1.map aC) 41 2::.box Z [i6 J.1,i6 J.2.1,.slice H r.Days.length D,.slice O J.2.2.1.length I] 95::.box S [i6 d,i6 g] 41::.box k [i6 r.Rise,i6 r.Fall,.slice H r.Days.length D] 39::Lf) w) aT (by kernel_rfl) (by kernel_rfl) (eZ.of hf ⟨rfl,rfl,rfl,trivial,trivial,trivial,trivial,trivial,trivial,trivial,trivial,trivial,trivial,trivial,trivial,trivial⟩) hc ⟨?_,?_,?_,?_,?_,?_,?_,?_,?_,?_,?_,?_,?_,trivial⟩ ?_ ?_
     ·intro E θ a w hD hi hp he hc
      have hf:=he.h0.mT he 1 rfl
      refine sp 1 hf rfl fun a hf=>zD θ he hi hf 3 rfl rfl rfl hc
     ·intro E θ a w hD hi hp he hc
      have hf:=he.h0.mT he 2 rfl
      refine zP hf rfl (pW Tryz.underlying100 aGm rfl rfl (by decide) (by decide)) fun a hf=>zD θ he hi hf 4 rfl rfl rfl hc
     ·intro E θ a w hD hi hp he hc
      have e1:=hp.o 1 rfl
      have hf:=he.h0.mP he 4 rfl e1
      refine zN hf hc aGf m2 rfl fun a w hf hc=>zD θ he hi hf 5 rfl rfl rfl hc
     ·intro E θ a w hD hi hp he hc
      have e0:=hp.o 0 rfl
      have e2:=hp.o 2 rfl
      try dsimp only at hc
      rw [hi] at hc
      have hf:=(he.h0.mP he 3 rfl e0).mP he 5 rfl e2
      obtain ⟨G1,m,X,hc,U⟩:=lend hc k3
      refine zC hf aF1 rfl (wB sub (Rd.sub X q) hc ak) ?_
      rintro _ w ⟨ax,ap,rfl,hc⟩
      refine ⟨_,rfl,fun a hf=>?_⟩
      replace hc:=U _ _ hc
      refine aP ?_
      refine eY ?_
      intro ds u j
      replace hc:=((((hc.drop k3).pick k0).pick k3).pick k2).pick k3
      refine ⟨(qW θ 24 ⟨0,ax,ap,(fun _=>(none,0))⟩),he.put hi j hf rfl [] trivial ⟨qq,qq,qq,qq,qq,qq,qq,qq,qq,qq,qq,qq,qq,qq,qq,trivial⟩,?_⟩
      try dsimp only
      rw [aR E 3]
      exact hc
     ·intro E θ a w hD hi hp he hc
      have e3:=hp.o 3 rfl
      try dsimp only at hc
      rw [e3] at hc
      have hf:=he.h0.mP he 6 rfl e3
      refine zQ (v:=i6 d) hf hc aK5 rfl (fun w hc=>by obtain ⟨G1,m,X,hc,U⟩:=lend hc k1; exact (xN t X hc aj).mono fun e w h=>⟨h.1,((U _ _ h.2).unpick k1)⟩) fun a w hf hc=>zD θ he hi hf 7 rfl rfl rfl ?_
      try dsimp only
      rw [cV 4 e3]
      exact hc
     ·intro E θ a w hD hi hp he hc
      have hf:=he.h0.mT he 1 rfl
      refine sp 1 hf rfl fun a hf=>zD θ he hi hf 8 rfl rfl rfl hc
     ·intro E θ a w hD hi hp he hc
      have hf:=he.h0.mT he 2 rfl
      refine zP hf rfl (pW Tryz.underlying100 aGm rfl rfl (by decide) (by decide)) fun a hf=>zD θ he hi hf 9 rfl rfl rfl hc
     ·intro E θ a w hD hi hp he hc
      have e6:=hp.o 6 rfl
      have hf:=he.h0.mP he 9 rfl e6
      refine zN hf hc aGf m2 rfl fun a w hf hc=>zD θ he hi hf 10 rfl rfl rfl hc
     ·intro E θ a w hD hi hp he hc
      have e5:=hp.o 5 rfl
      have e7:=hp.o 7 rfl
      try dsimp only at hc
      rw [hi] at hc
      have hf:=(he.h0.mP he 8 rfl e5).mP he 10 rfl e7
      obtain ⟨G1,m,X,hc,U⟩:=lend hc k3
      refine zC hf aF1 rfl (rV sub (Rd.sub X q) hc ai) ?_
      rintro _ w ⟨az,a0,rfl,hc⟩
      refine ⟨_,rfl,fun a hf=>?_⟩
      replace hc:=U _ _ hc
      refine aP ?_
      refine eY ?_
      intro ds u j
      replace hc:=((((hc.drop k2).pick k0).pick k3).pick k3).pick k3
      refine ⟨(qW θ 64 ⟨0,az,a0,(fun _=>(none,0))⟩),he.put hi j hf rfl [] trivial ⟨qq,qq,qq,qq,qq,qq,qq,qq,qq,qq,qq,qq,qq,qq,qq,trivial⟩,?_⟩
      try dsimp only
      rw [aR E 8]
      exact hc
     ·intro E θ a w hD hi hp he hc
      have e8:=hp.o 8 rfl
      try dsimp only at hc
      rw [e8] at hc
      have hf:=he.h0.mP he 11 rfl e8
      refine zQ (v:=i6 g) hf hc aK5 rfl (fun w hc=>by obtain ⟨G1,m,X,hc,U⟩:=lend hc k0; exact (xN x X hc am).mono fun e w h=>⟨h.1,((U _ _ h.2).unpick k0)⟩) fun a w hf hc=>zD θ he hi hf 12 rfl rfl rfl ?_
      try dsimp only
      rw [cV 9 e8]
      exact hc
     ·intro E θ a w hD hi hp he hc
      have e4:=hp.o 4 rfl
      have e9:=hp.o 9 rfl
      have hf:=(he.h0.mP he 7 rfl e4).mP he 12 rfl e9
      refine zP hf rfl (bH (cells:=[i6 d,i6 g]) iY rfl rfl) fun a hf=>zD θ he hi hf 13 rfl rfl rfl hc
     ·intro E θ a w hD hi hp he hc
      have y:=hp.o 10 rfl
      try dsimp only at hc
      rw [hi] at hc
      have hf:=(he.h0.mT he 0 rfl).mP he 13 rfl y
      refine zW hf hc cA u5 rfl fun w hc=>zG θ he hi hf rfl ?_
      try dsimp only
      rw [aR E 11]
      exact hc
     ·intro E θ a w hD hi hp he hc
      have hf:=he.h0
      refine sp 1 hf rfl fun a hf=>zD θ he hi hf 14 rfl rfl rfl hc
     ·intro E θ a w R he hc
      have hf:=he.h0
      have e3:=R 3 rfl
      have e8:=R 8 rfl
      have i:=R 11 rfl
      have ay:=R 12 rfl
      replace hf:=hf.more he 14 rfl (onP ay)
      replace hf:=hf.more he 0 rfl (onT)
      try dsimp only at hc
      rw [e3,e8,i] at hc
      exact ⟨(θ 64).p,(θ 64).c,(θ 24).p,(θ 24).c,hf.kp rfl,hc⟩
     rintro a w ⟨ad,ab,af,aa,hf,hc⟩
     refine au _ _ ?_
     refine wp_ret ?_
     obtain rfl:=sj hF
     replace hc:=(((((hc.drop k6).drop k4).drop k3).drop k2).drop k1).drop k0
     exact nQ (by simp) rfl Tryz.results13 hf hc (cR (vs:=[i6 d,i6 g]) eA rfl rfl (bO (n:=2) m0 rfl)) (show dG _ 7=_ from rfl) ⟨rfl,(hc.drop k0)⟩

def jC (x:Int):Bool :=
 (!(bF x))
theorem uG {G:aS} {Lf:List Ent} {w:World} (x:Int) {b_:Nat}  (hc:Ctx G (.box b_ [.func (.func 40) #[] #[]] 84::Lf) w) {B:Bool} (hF:jC x=B):Calls Tryz.prog 73 #[i6 x,pq b_] w (fun e w=>e=.returned (.bool B)∧Ctx G (.box b_ [.func (.func 40) #[] #[]] 84::Lf) w):=by
 unfold jC at hF
 refine cB Tryz.func73 rfl Tryz.ntmps73 rfl fun a hf=>zS fun K h=>sp 1 hf rfl fun a hf=>zT h ?_
 refine zS fun K h=>zL hf hc sc_84 m0 rfl fun a w hf hc=>sp 1 hf rfl fun a hf=>zQ (v:=.bool (bF x)) hf hc aFv rfl (fun w hc=>oR x hc rfl) fun a w hf hc=>sp 2 hf rfl fun a hf=>zT h ?_
 refine wp_ret ?_
 obtain rfl:=hF
 exact zO1 Tryz.results73 hf rfl ⟨rfl,hc⟩

def kS (N:Nat) (s_:List Int) (x:Int):Option (cY (Int) (Int)) :=
 cond (decide (x < ((s_.length:Nat):Int)))
 (Option.bind (bG s_ x) fun B=>
 cond (jC B)
 (some (.ret x))
 (some (.cont (W (x + 1)))))
 (some (.brk x))
def fZ (N:Nat) (s_:List Int):Option (Int) :=
 Option.bind (bE (fun s4=>kS N s_ s4) N 0) fun x4=>
 exK x4 (fun s4=>some (-1)) some
theorem pQ {N:Nat} {G:aS} {Lf:List Ent} {w:World} (s_:List Int) {D:Option Addr} {H:Nat} {b_:Nat} (M:Rd G 1 D H (s_.map aD)) (hc:Ctx G (.box b_ [.func (.func 40) #[] #[]] 84::Lf) w) {I:Int} (hF:fZ N s_=some I):Calls Tryz.prog 95 #[.slice D s_.length H,.func (.func 73) #[] #[pq b_]] w (fun e w=>e=.returned (i6 I)∧Ctx G (.box b_ [.func (.func 40) #[] #[]] 84::Lf) w):=by
 unfold fZ at hF
 refine cB Tryz.func95 rfl Tryz.ntmps95 rfl fun a hf=>zS fun K h=>sp 1 hf rfl fun a hf=>zT h ?_
 refine wp_seq_k fun K2 h2=>zS fun K h=>sp 1 hf rfl fun a hf=>zP hf rfl (bM Tryz.underlying27 rfl) fun a hf=>sp 1 hf rfl fun a hf=>zT h ?_
 refine wp_block ?_
 obtain ⟨x4,U,hF⟩:=aB hF
 let S4:Int→Act→World→Prop:=(fun (zz:Int) a w=>Has 19 a [(0,.slice D s_.length H),(1,.func (.func 73) #[] #[pq b_]),(7,i6 ((s_.length:Nat):Int)),(8,i6 zz)]∧Ctx G (.box b_ [.func (.func 40) #[] #[]] 84::Lf) w)
 have V:∀ (zz:Int) a w,x4=.go zz→S4 zz a w→K2 a w:=by
  rintro x a w rfl ⟨hf,hc⟩
  replace hF:=bW hF
  refine h2 _ _ ?_
  refine zS fun K h=>sp 1 hf rfl fun a hf=>zT h ?_
  refine wp_ret ?_
  obtain rfl:=sj hF
  exact zO1 Tryz.results95 hf rfl ⟨rfl,hc⟩
 have R:∀ r,x4=.out r→r=I:=by
  rintro r rfl
  exact sj hF
 refine dO N (dH (S:=S4) (x:=x4) ?_ N 0 _ _ ⟨hf.kp rfl,hc⟩ U)
 clear hF hf hc
 rintro x Y a w KB4 ⟨hf,hc⟩ hF B X
 unfold kS at hF
 refine zS fun K h=>sp 1 hf rfl fun a hf=>zT h ?_
 refine wp_seq_k fun K7 h7=>zI hf rfl hF ?_ ?_ <;> clear hF <;> intro hF
 ·refine wp_skip ?_
  refine h7 _ _ ?_
  refine wp_seq_k fun K8 h8=>wp_block ?_
  refine zS fun K h=>sp 2 hf rfl fun a hf=>zT h ?_
  refine zS fun K h=>sp 3 hf rfl fun a hf=>?_
  obtain ⟨J,O,hF⟩:=aB hF
  obtain ⟨Z,o,qa,qp⟩:=M.atm O
  refine zP hf rfl (pIA Tryz.underlying27 eL rfl rfl qa) fun a hf=>zE hf hc rfl (cE aU rfl (dX (j:=0) qp rfl)) fun a w hf hc=>zQ (v:=.bool (jC J)) hf hc en_73 rfl (fun w hc=>(uG J (hc.pick k0) rfl).mono fun e w h=>⟨h.1,(h.2.unpick k0)⟩) fun a w hf hc=>zT h ?_
  refine zI hf rfl hF ?_ ?_ <;> clear hF <;> intro hF
  ·refine zS fun K h=>sp 2 hf rfl fun a hf=>zT h ?_
   refine wp_ret ?_
   refine bU ?_
   refine aO ?_
   refine aO ?_
   have he:=sj hF
   rw [← he] at B
   replace hF:=R _ B
   refine bU ?_
   refine aO ?_
   obtain rfl:=hF
   exact zO1 Tryz.results95 hf rfl ⟨rfl,hc⟩
  ·refine wp_skip ?_
   refine h8 _ _ ?_
   refine dE ?_
   refine sp 2 hf rfl fun a hf=>aP ?_
   exact X (W (x + 1)) _ _ (sj hF).symm ⟨hf.kp rfl,hc⟩
 ·refine wp_exit ?_
  refine aV ?_
  refine aV ?_
  have he:=sj hF
  rw [← he] at B
  refine eW ?_
  exact V _ _ _ B ⟨hf.kp rfl,hc⟩

def eU (N:Nat) (s_:List Int):Option (Bool) :=
 Option.bind (fZ N s_) fun r=>
 some (decide (0≤r))
theorem nR {N:Nat} {G:aS} {Lf:List Ent} {w:World} (s_:List Int) {D:Option Addr} {B:Nat} {b_:Nat} (I:Rd G 1 D B (s_.map aD)) (hc:Ctx G (.box b_ [.func (.func 40) #[] #[]] 84::Lf) w) {H:Bool} (hF:eU N s_=some H):Calls Tryz.prog 72 #[.slice D s_.length B,.func (.func 73) #[] #[pq b_]] w (fun e w=>e=.returned (.bool H)∧Ctx G (.box b_ [.func (.func 40) #[] #[]] 84::Lf) w):=by
 unfold eU at hF
 refine cB Tryz.func72 rfl Tryz.ntmps72 rfl fun a hf=>zS fun K h=>sp 1 hf rfl fun a hf=>zT h ?_
 refine zS fun K h=>sp 2 hf rfl fun a hf=>?_
 obtain ⟨r,hr,hF⟩:=aB hF
 refine zQ (v:=i6 r) hf hc en_95 rfl (fun w hc=>(pQ s_ I (hc.pick k0) hr).mono fun e w h=>⟨h.1,(h.2.unpick k0)⟩) fun a w hf hc=>sp 2 hf rfl fun a hf=>zT h ?_
 refine wp_ret ?_
 obtain rfl:=sj hF
 exact zO1 Tryz.results72 hf rfl ⟨rfl,hc⟩

def kQ (N:Nat) (l:List Int):Option (Bool) :=
 Option.bind (eU N l) fun r=>
 some (!r)
theorem wH {N:Nat} {G:aS} {Lf:List Ent} {w:World} (l:List Int) {H:Option Addr} {B:Nat} (I:Rd G 1 H B (l.map aD)) (hc:Ctx G (Lf) w) {D:Bool} (hF:kQ N l=some D):Calls Tryz.prog 39 #[.slice H l.length B,.func (.func 40) #[] #[]] w (fun e w=>e=.returned (.bool D)∧Ctx G (Lf) w):=by
 unfold kQ at hF
 refine cB Tryz.func39 rfl Tryz.ntmps39 rfl fun a hf=>zS fun K h=>zB hf hc rfl fun J a w hf hc=>sp 1 hf rfl fun a hf=>zT h ?_
 refine zS fun K h=>sp 1 hf rfl fun a hf=>zP hf rfl (pMF (us:=[pq J]) rfl rfl) fun a hf=>?_
 obtain ⟨r,hr,hF⟩:=aB hF
 refine zQ (v:=.bool r) hf hc en_72 rfl (fun w hc=>(nR l I (hc.pick k0) hr).mono fun e w h=>⟨h.1,(h.2.unpick k0)⟩) fun a w hf hc=>sp 2 hf rfl fun a hf=>zT h ?_
 refine wp_ret ?_
 obtain rfl:=sj hF
 replace hc:=hc.drop k0
 exact zO1 Tryz.results39 hf rfl ⟨rfl,hc⟩

end Go.Nilo
