/- Parts of the proof, put together: P1, P2. -/
import Derived.Test.YtiahijhpjloijaaGreatM27
import Derived.Test.YtiahijhpjloijaaGreatM28
import Derived.Test.YtiahijhpjloijaaGreatM19
set_option linter.unusedVariables false
set_option linter.unusedSimpArgs false
namespace Go.Proofs.YtiahijhpjloijaaGreat.V
open Go
section
variable{P:Program} {O:Oracle2} {dst:Option Pos} {gd:Option (Pos×Bool)} {r fr:Nat} {tm:Tr GD} {hp:List GO}
theorem gG {p:Pos} {e:GD} (h:gval tm (.t p)=some e):gval (GS.mk tm hp).tm (.t p)=some e:=h
theorem sIasO {k k0 n a:Nat} {x ix:A} {kj:IntKind} {j:Nat} (hg:gguard gd tm=.run) (h:gval tm x=some (.one (.own a k0 n))) (hi:gval tm ix=some (.one (.v (.int kj (.ofNat j))))) (hj:j<n):
 gstep1 P O ⟨dst,gd,r,fr,.ias k x ix⟩ ⟨tm,hp⟩=some ⟨gput dst (.one (.loc a (j*k))) tm,hp⟩:=by
 unfold gstep1;rw[hg];have h1:idx (.ofNat j) n=some j:=by
  show(Bool.rec none (some j) (Nat.ble (Nat.succ j) n):Option Nat)=_;rw[(ble_iff _ _).2 hj]
 simp only[grd,gcel_v h,gsc_v hi (c:=.int kj (.ofNat j)) rfl,h1]
theorem sEx {x:A} {ix:Nat} {l:List GX} {y:GX} (hg:gguard gd tm=.run) (h:gval tm x=some (.tup l)) (hy:nth l ix=some y):gstep1 P O ⟨dst,gd,r,fr,.ex x ix⟩ ⟨tm,hp⟩=some ⟨gput dst (gofX y) tm,hp⟩:=by
 unfold gstep1;rw[hg];simp only[grd,h,hy]
theorem cStX {l:List Ins} {Q:GS→Prop} {n:Nat} {a x:A} {i o e:Nat} {cs ps ns:List G} (hg:gguard gd tm=.run) (h:gval tm a=some (.one (.loc i o))) (hi:nth hp i=some (.ob e false cs)) (hx:gcells tm x=some ps) (hn:len ps=n) (ho:o+n≤len cs) (hs:splice ps o cs=ns)
 (k:∀hp',Kx i hp hp'→nth hp' i=some (.ob e false ns)→∃t,gsteps P O l ⟨tm,hp'⟩=some t∧Q t):∃t,gsteps P O (⟨none,gd,r,fr,.st n a x⟩::l) ⟨tm,hp⟩=some t∧Q t:=by
 refine ggo (g1:=⟨tm,setO hp i (.ob e false ns)⟩) ?_ (k _ (fun j o' hj hjo=>nth_set2 hi hjo hj) (nth_set1 hi));unfold gstep1;rw[hg];have h1:Nat.ble (o+n) (len cs)=true:=Nat.ble_eq_true_of_le ho;have h2:Nat.beq (len ps) n=true:=(beq_iff _ _).2 hn;simp only[grd,gcel_v h,hi,hx,h1,h2,hs];rfl
theorem cAllocN {l:List Ins} {Q:GS→Prop} {e:Nat} {zs:List C} {cs:List G} (hg:gguard gd tm=.run) (hz:each cG zs=some cs)
 (k:∀a hp',Kp hp hp'→nth hp' a=some (.ob e false cs)→a=len hp→∃t,gsteps P O l ⟨gput dst (.one (.loc a 0)) tm,hp'⟩=some t∧Q t):∃t,gsteps P O (⟨dst,gd,r,fr,.alloc e zs⟩::l) ⟨tm,hp⟩=some t∧Q t:=
 ggo (g1:=⟨gput dst (.one (.loc (len hp) 0)) tm,gnew hp e cs⟩) (by unfold gstep1;rw[hg];simp only[grd,hz]) (k _ _ .new nth_new rfl)
theorem fBsl {l:List (Nat×Ins)} {fs:List Ft2} {Q:GS→List Ft2→Prop} {m e j n:Nat} {zs:List C} {ps:List (Nat×Nat×A)} {gs cs:List G} (hg:gguard gd tm=.run) (hz:each cG zs=some gs) (hf:gfill tm (rep n gs) ps=some cs)
 (k:∀a hp',Kp hp hp'→nth hp' a=some (.ob e false cs)→FS P O l ⟨gput dst (.one (.own a j n)) tm,hp'⟩ (gft ⟨dst,gd,r,fr,.bsl e j n zs ps⟩ ⟨tm,hp⟩ ⟨gput dst (.one (.own a j n)) tm,hp'⟩::fs) Q):FS P O ((m,⟨dst,gd,r,fr,.bsl e j n zs ps⟩)::l) ⟨tm,hp⟩ fs Q:=
 fgo (g1:=⟨gput dst (.one (.own (len hp) j n)) tm,gnew hp e cs⟩) (by unfold gstep1;rw[hg];simp only[grd,hz,hf]) (k _ _ .new nth_new)
theorem maps_x (us vs:List U) (σ:Nat→Nat):renGD σ (.tup [.ag (mapsV us),.ag (mapsV vs)])=.tup [.ag (mapsV us),.ag (mapsV vs)]:=by
 show GD.tup [.ag (maps (renG σ) (mapsV us)),.ag (maps (renG σ) (mapsV vs))]=_;rw[maps_v,maps_v]
theorem cCallT {l:List Ins} {Q:GS→Prop} {f:Nat} {xs:List A} {ds:List GD} {us vs:List U} {G:List GO} (hg:gguard gd tm=.run) (h:each (gval tm) xs=some ds) (hd:Pu ds) (hO:O f ds []=some (.tup [.ag (mapsV us),.ag (mapsV vs)],G))
 (k:∀hp',Kp hp hp'→∃t,gsteps P O l ⟨gput dst (.tup [.ag (mapsV us),.ag (mapsV vs)]) tm,hp'⟩=some t∧Q t):∃t,gsteps P O (⟨dst,gd,r,fr,.call f xs⟩::l) ⟨tm,hp⟩=some t∧Q t:=by
 refine ggo (sCall (d:=.tup [.ag (mapsV us),.ag (mapsV vs)]) (hp':=app hp (maps (renGO (rn none (len hp))) G)) hg h ?_) (k _ .app);unfold gcall;rw[gargs_pu (hd hp) hd.noloc];simp only[hO];show some (renGD _ (GD.tup [.ag (mapsV us),.ag (mapsV vs)]),_)=_;rw[maps_x]
theorem fCallT {l:List (Nat×Ins)} {fs:List Ft2} {Q:GS→List Ft2→Prop} {m f:Nat} {xs:List A} {ds:List GD} {us vs:List U} {G:List GO} (hg:gguard gd tm=.run) (h:each (gval tm) xs=some ds) (hd:Pu ds) (hO:O f ds []=some (.tup [.ag (mapsV us),.ag (mapsV vs)],G))
 (k:∀hp',Kp hp hp'→FS P O l ⟨gput dst (.tup [.ag (mapsV us),.ag (mapsV vs)]) tm,hp'⟩ (gft ⟨dst,gd,r,fr,.call f xs⟩ ⟨tm,hp⟩ ⟨gput dst (.tup [.ag (mapsV us),.ag (mapsV vs)]) tm,hp'⟩::fs) Q):FS P O ((m,⟨dst,gd,r,fr,.call f xs⟩)::l) ⟨tm,hp⟩ fs Q:=by
 refine fOf (Q0:=fun t=>∃hp',t=⟨gput dst (.tup [.ag (mapsV us),.ag (mapsV vs)]) tm,hp'⟩∧Kp hp hp') (cCallT hg h hd hO (fun hp' m=>gnil ⟨hp',rfl,m⟩)) ?_
 rintro _ ⟨hp',rfl,m⟩
 exact k hp' m
theorem eLB {hp:List GO} {g g' h h':GS} {da db:Option Pos} {ga:Option (Pos×Bool)} {ra rb fa fb:Nat} {k e j n:Nat} {ag:Bool} {x:A} {i off:Nat} {zs:List C} {ps:List (Nat×Nat×A)} {o:GO} (hg:gguard ga g.tm=.run) (hx:gval g.tm x=some (.one (.loc i off))) (hi:nth h.hp i=some o):
 gclashes hp (gft ⟨da,ga,ra,fa,.ld k ag x⟩ g g') (gft ⟨db,none,rb,fb,.bsl e j n zs ps⟩ h h')=false:=by
 rw[gft_ld hg hx];exact gcl_ld_new (ne_len hi)
end
def LO10:K:=match b10.k with| .seq _ (.seq _ (.seq (.seq _ (.block _ (.loop a))) _))=>a|_=>.skip
def LI10:K:=match LO10 with| .seq _ (.seq (.block _ (.seq _ (.block _ (.loop a)))) _)=>a|_=>.skip
def R10:K:=match b10.k with| .seq _ (.seq _ (.seq _ a))=>a|_=>.skip
def z48:List U:=[.int .i64 0,.nil,.nil,.int .i64 0,.bool false,.nil,.nil,.int .i64 0,.nil,.nil,.nil,.nil,.int .i64 0,.int .i64 0,.int .i64 0,.bool false,.int .i64 0,.nil,.nil]
structure S10 (a2 a3:Nat) (o0:GO) (w:List U) (g:GS):Prop where
 h0:gval g.tm (.t p0)=some (.one (.loc 0 0))
 h2:gval g.tm (.t p2)=some (.one (.loc a2 0))
 h3:gval g.tm (.t p3)=some (.one (.loc a3 0))
 w0:nth g.hp 0=some o0
 w2:nth g.hp a2=some (.ob 48 false (mapsV z48))
 w3:nth g.hp a3=some (.ob 48 false (mapsV w))
theorem nm_get {j:Nat} (hj:j<2):([.str [97],.str [98]]:List U)[j*1]?=some (.str [97+j]):=by
 rcases(show j=0∨j=1 by omega)with rfl|rfl<;>rfl
theorem stp_fill {tm:Tr GD} {r c:Nat} {x y:A} (hx:gval tm x=some (.one (.v (.int .i64 (.ofNat r))))) (hy:gval tm y=some (.one (.v (.str [c])))):
 gfill tm (mapsV [.int .i64 0,.int .i64 0,.int .i64 0,.int .i64 0,.int .i64 0,.int .i64 0,.int .i64 0,.str [],.nil]) [(0,1,.c (.one (.int .i64 3))),(1,1,x),(7,1,y)]=some (mapsV (stp r c)):=by
 rw[gfill_cons (l:=[.v (.int .i64 3)]) rfl rfl rfl,gfill_cons (gcells_one hx rfl) rfl rfl,gfill_cons (gcells_one hy rfl) rfl rfl];rfl
section
variable{P:Program} {O:Oracle2} {n:Nat}
theorem inner10 (h19:∀i,i<6→∃G,O 19 [.ag (mapsV (wd i)),.ag (mapsV (stp (1+i/2) (97+i%2)))] []=some (.tup [.ag (mapsV (ud i)),.ag (mapsV [.int .i64 5,.int .i64 0,.str []])],G))
 (h17:∀i,i<6→∃G,O 17 [.ag (mapsV (ud i))] []=some (.ag (mapsV (wd (i+1))),G)) (hwl:∀i,i<7→(wd i).length=19) (hul:∀i,i<6→(ud i).length=19) (hn:2<n)
 {a2 a3 q:Nat} {o0:GO} (hq:q<3) (h03:0≠a3) (h23:a2≠a3) {tm:Tr GD} {hp:List GO} (hS:S10 a2 a3 o0 (wd (2*q)) ⟨tm,hp⟩) (k4:gval tm (.t p4)=some (.one (.v (.int .i64 (.ofNat (q+1)))))) (k5:gval tm (.t p5)=some (.one (.v (.int .i64 (.ofNat 0))))):
 ∃t,gev P O n (.loop LI10) ⟨tm,hp⟩=.exit 2 t∧S10 a2 a3 o0 (wd (2*q+2)) t∧gval t.tm (.t p4)=some (.one (.v (.int .i64 (.ofNat (q+1))))):=by
 refine iter_up (f:=gev P O n LI10) (I:=fun j g=>S10 a2 a3 o0 (wd (2*q+j)) g∧gval g.tm (.t p4)=some (.one (.v (.int .i64 (.ofNat (q+1)))))∧gval g.tm (.t p5)=some (.one (.v (.int .i64 (.ofNat j))))) (N:=2) (id:=2)
  (Q:=fun t=>S10 a2 a3 o0 (wd (2*q+2)) t∧gval t.tm (.t p4)=some (.one (.v (.int .i64 (.ofNat (q+1)))))) ?_ ?_ 2 0 ⟨tm,hp⟩ n rfl hn ⟨hS,k4,k5⟩
 ·rintro j ⟨tm,hp⟩ hj ⟨⟨h0,h2,h3,w0,w2,w3⟩,h4,h5⟩
  dsimp only at h0 h2 h3 h4 h5 w0 w2 w3;obtain⟨G1,o19⟩:=h19 (2*q+j) (by omega);obtain⟨G2,o17⟩:=h17 (2*q+j) (by omega);have e1:1+(2*q+j)/2=q+1:=by omega
  have e2:97+(2*q+j)%2=97+j:=by omega
  rw[e1,e2]at o19;have hw:=hwl (2*q+j) (by omega);have hw':=hwl (2*q+j+1) (by omega);have hu:=hul (2*q+j) (by omega);have hb:=nm_get hj;show Wp P O n LI10 ⟨tm,hp⟩ (fun o=>∃g',o=.norm g'∧S10 a2 a3 o0 (wd (2*q+(j+1))) g'∧gval g'.tm (.t p4)=some (.one (.v (.int .i64 (.ofNat (q+1)))))∧gval g'.tm (.t p5)=some (.one (.v (.int .i64 (.ofNat (j+1))))));refine wSeq (wSeq (wBlk (ggo (sMv rfl h5) (ggo (sBin (cb:=.int .i64 2) (c:=.bool true) rfl vhit rfl rfl rfl (ltT hj) rfl) (gnil (nNorm (wCond (t:=true) vhit (wSkip (nNorm (wSeq (wBlock (wSeq (wDblkF ?_)))))))))))));refine fgo (sLdO rfl (v2 rfl h3) w3 (ldVall hw) (len_mapsV hw) rfl) (fgo (sMv rfl (v1 rfl (v2 rfl h4))) ?_);refine fBsl (cs:=mapsV [.str [97],.str [98]]) rfl rfl rfl ?_;intro ab hp1 m1 wb;have z3:=w3;replace w0:=m1 _ _ w0;replace w2:=m1 _ _ w2;replace w3:=m1 _ _ w3;refine fgo (sMv rfl (v4 rfl (v1 rfl h5))) (fgo (sIasO rfl (v1 rfl vhit) vhit hj) (fgo (sLdO (d:=.one (.v (.str [97+j]))) rfl vhit wb (ldV1 hb) rfl rfl) ?_));refine fgo (sBld rfl rfl (stp_fill (v4 rfl vhit) vhit)) ?_;refine fCallT rfl (args2 (v4 rfl (v2 rfl vhit)) vhit) (.ag (.ag .nil)) o19 ?_;intro hp2 m2;replace w0:=m2 _ _ w0;replace w2:=m2 _ _ w2;replace w3:=m2 _ _ w3;refine fgo (sMv rfl vhit) (fgo (sEx rfl vhit rfl) (fgo (sEx rfl (v1 rfl vhit) rfl) ?_));refine fStX (ns:=mapsV (ud (2*q+j))) rfl (v8 rfl (v4 rfl (v1 rfl h3))) w3 (gcells_ag (v1 rfl vhit)) (len_mapsV hu) (by rw[len_mapsV hw];exact Nat.le_refl _) (splice_all (by rw[mapsV_eq,mapsV_eq,List.length_map,List.length_map,hu,hw])) ?_;intro hp3 m3 w3';replace w0:=m3 _ _ h03 w0;replace w2:=m3 _ _ h23 w2;refine fnil ⟨?_,?_⟩
  ·refine gokF_cons (x:=_) (y:=_) rfl rfl rfl ?_ ?_
   ·exact eLB rfl (gG (v2 rfl h3)) z3
   rfl
  refine nNorm (wBlk (ggo (sLdO rfl (v8 rfl (v4 rfl (v1 rfl h3))) w3' (ldVall hu) (len_mapsV hu) rfl) ?_));refine cCallA rfl (args1 vhit) (.ag .nil) o17 ?_;intro hp4 m4;replace w0:=m4 _ _ w0;replace w2:=m4 _ _ w2;replace w3':=m4 _ _ w3';refine cStX (ns:=mapsV (wd (2*q+j+1))) rfl (v8 rfl (v4 rfl (v2 rfl (v1 rfl h3)))) w3' (gcells_ag vhit) (len_mapsV hw') (by rw[len_mapsV hu];exact Nat.le_refl _) (splice_all (by rw[mapsV_eq,mapsV_eq,List.length_map,List.length_map,hu,hw'])) ?_;intro hp5 m5 w3'';replace w0:=m5 _ _ h03 w0;replace w2:=m5 _ _ h23 w2;refine gnil (bNorm (nNorm (wBlk (ggo (sMv rfl (v8 rfl (v4 rfl (v2 rfl (v1 rfl h5))))) (ggo (sBin (cb:=.int .i64 1) (c:=.int .i64 (.ofNat (j+1))) rfl vhit rfl rfl rfl (inc64 (by omega)) rfl) (ggo (sMv rfl vhit) (gnil ?_)))))));exact⟨_,rfl,⟨gG (v8 rfl (v8 rfl (v2 rfl h0))),gG (v8 rfl (v8 rfl (v2 rfl h2))),gG (v8 rfl (v8 rfl (v2 rfl h3))),w0,w2,w3''⟩,gG (v8 rfl (v8 rfl (v2 rfl h4))),gG vhit⟩
 ·rintro ⟨tm,hp⟩ ⟨⟨h0,h2,h3,w0,w2,w3⟩,h4,h5⟩
  dsimp only at h0 h2 h3 h4 h5 w0 w2 w3;show Wp P O n LI10 ⟨tm,hp⟩ (fun o=>∃g',o=.exit 2 g'∧S10 a2 a3 o0 (wd (2*q+2)) g'∧gval g'.tm (.t p4)=some (.one (.v (.int .i64 (.ofNat (q+1))))));refine wSeq (wSeq (wBlk (ggo (sMv rfl h5) (ggo (sBin (cb:=.int .i64 2) (c:=.bool false) rfl vhit rfl rfl rfl (ltF (Nat.le_refl _)) rfl) (gnil (nNorm (wCond (t:=false) vhit (wExit (nExit ?_)))))))));exact⟨_,rfl,⟨gG (v2 rfl h0),gG (v2 rfl h2),gG (v2 rfl h3),w0,w2,w3⟩,gG (v2 rfl h4)⟩
theorem outer10 (h19:∀i,i<6→∃G,O 19 [.ag (mapsV (wd i)),.ag (mapsV (stp (1+i/2) (97+i%2)))] []=some (.tup [.ag (mapsV (ud i)),.ag (mapsV [.int .i64 5,.int .i64 0,.str []])],G))
 (h17:∀i,i<6→∃G,O 17 [.ag (mapsV (ud i))] []=some (.ag (mapsV (wd (i+1))),G)) (hwl:∀i,i<7→(wd i).length=19) (hul:∀i,i<6→(ud i).length=19) (hn:3<n)
 {a2 a3:Nat} {o0:GO} (h03:0≠a3) (h23:a2≠a3) {tm:Tr GD} {hp:List GO} (hS:S10 a2 a3 o0 (wd 0) ⟨tm,hp⟩) (k4:gval tm (.t p4)=some (.one (.v (.int .i64 (.ofNat 1))))):
 ∃t,gev P O n (.loop LO10) ⟨tm,hp⟩=.exit 0 t∧S10 a2 a3 o0 (wd 6) t:=by
 refine iter_up (f:=gev P O n LO10) (I:=fun q g=>S10 a2 a3 o0 (wd (2*q)) g∧gval g.tm (.t p4)=some (.one (.v (.int .i64 (.ofNat (q+1)))))) (N:=3) (id:=0) (Q:=fun t=>S10 a2 a3 o0 (wd 6) t) ?_ ?_ 3 0 ⟨tm,hp⟩ n rfl hn ⟨hS,k4⟩
 ·rintro q ⟨tm,hp⟩ hq ⟨⟨h0,h2,h3,w0,w2,w3⟩,h4⟩
  dsimp only at h0 h2 h3 h4 w0 w2 w3;show Wp P O n LO10 ⟨tm,hp⟩ (fun o=>∃g',o=.norm g'∧S10 a2 a3 o0 (wd (2*(q+1))) g'∧gval g'.tm (.t p4)=some (.one (.v (.int .i64 (.ofNat (q+1+1))))));refine wSeq (wSeq (wBlk (ggo (sMv rfl h4) (ggo (sBin (cb:=.int .i64 3) (c:=.bool true) rfl vhit rfl rfl rfl (leT (i:=q+1) (j:=3) hq) rfl) (gnil (nNorm (wCond (t:=true) vhit (wSkip (nNorm (wSeq (wBlock (wSeq (wBlk (ggo (sMv rfl rfl) (gnil (nNorm (wBlock (wEx (inner10 h19 h17 hwl hul (by omega) hq h03 h23 ⟨gG (v1 rfl (v2 rfl h0)),gG (v1 rfl (v2 rfl h2)),gG (v1 rfl (v2 rfl h3)),w0,w2,w3⟩ (v1 rfl (v2 rfl h4)) vhit) ?_))))))))))))))))))
  rintro ⟨tm1,hp1⟩ ⟨⟨h0,h2,h3,w0,w2,w3⟩,h4⟩
  dsimp only at h0 h2 h3 h4 w0 w2 w3;refine bExit (bNorm (nNorm (wBlk (ggo (sMv rfl h4) (ggo (sBin (cb:=.int .i64 1) (c:=.int .i64 (.ofNat (q+1+1))) rfl vhit rfl rfl rfl (inc64 (by omega)) rfl) (ggo (sMv rfl vhit) (gnil ?_)))))));exact⟨_,rfl,⟨gG (v2 rfl (v1 rfl h0)),gG (v2 rfl (v1 rfl h2)),gG (v2 rfl (v1 rfl h3)),w0,w2,w3⟩,gG vhit⟩
 ·rintro ⟨tm,hp⟩ ⟨⟨h0,h2,h3,w0,w2,w3⟩,h4⟩
  dsimp only at h0 h2 h3 h4 w0 w2 w3;show Wp P O n LO10 ⟨tm,hp⟩ (fun o=>∃g',o=.exit 0 g'∧S10 a2 a3 o0 (wd 6) g');refine wSeq (wSeq (wBlk (ggo (sMv rfl h4) (ggo (sBin (cb:=.int .i64 3) (c:=.bool false) rfl vhit rfl rfl rfl rfl rfl) (gnil (nNorm (wCond (t:=false) vhit (wExit (nExit ?_)))))))));exact⟨_,rfl,⟨gG (v2 rfl h0),gG (v2 rfl h2),gG (v2 rfl h3),w0,w2,w3⟩⟩
theorem pre10 (h21:∃G,O 21 [] []=some (.ag (mapsV (wd 0)),G)) (h19:∀i,i<6→∃G,O 19 [.ag (mapsV (wd i)),.ag (mapsV (stp (1+i/2) (97+i%2)))] []=some (.tup [.ag (mapsV (ud i)),.ag (mapsV [.int .i64 5,.int .i64 0,.str []])],G))
 (h17:∀i,i<6→∃G,O 17 [.ag (mapsV (ud i))] []=some (.ag (mapsV (wd (i+1))),G)) (hwl:∀i,i<7→(wd i).length=19) (hul:∀i,i<6→(ud i).length=19) (hn:3<n) {o0:GO} {Q:GOut→Prop}
 (k:∀a2 a3 g,0≠a2→0≠a3→a2≠a3→S10 a2 a3 o0 (wd 6) g→Wp P O n R10 g Q):Wp P O n b10.k ⟨gput (some p0) (.one (.loc 0 0)) .e,[o0]⟩ Q:=by
 have w0:nth [o0] 0=some o0:=rfl;obtain⟨G,h21⟩:=h21;have hw:=hwl 0 (by omega);refine wSeq (wBlk ?_);refine cAllocN (cs:=mapsV z48) rfl rfl ?_;intro a2 hp1 m1 w2 q2;have n02:0≠a2:=by rw[q2];exact ne_len w0
 replace w0:=m1 _ _ w0;refine gnil (nNorm (wSeq (wBlk ?_)));refine cCallA (ds:=[]) rfl rfl .nil h21 ?_;intro hp2 m2;replace w0:=m2 _ _ w0;replace w2:=m2 _ _ w2;refine cAllocN (cs:=mapsV z48) rfl rfl ?_;intro a3 hp3 m3 w3 q3;have n03:0≠a3:=by rw[q3];exact ne_len w0
 have n23:a2≠a3:=by rw[q3];exact ne_len w2
 replace w0:=m3 _ _ w0;replace w2:=m3 _ _ w2;refine cStX (ns:=mapsV (wd 0)) rfl rfl w3 (gcells_ag rfl) (len_mapsV hw) (Nat.le_of_ble_eq_true rfl) (splice_all (by rw[mapsV_eq,mapsV_eq,List.length_map,List.length_map,hw];rfl)) ?_;intro hp4 m4 w3';replace w0:=m4 _ _ n03 w0;replace w2:=m4 _ _ n23 w2;refine gnil (nNorm (wSeq (wSeq (wBlk (ggo (sMv rfl rfl) (gnil (nNorm (wBlock (wEx (outer10 h19 h17 hwl hul hn n03 n23 ⟨rfl,rfl,rfl,w0,w2,w3'⟩ rfl) ?_)))))))));intro t hS;exact bExit (nNorm (k _ _ _ n02 n03 n23 hS))
end
end Go.Proofs.YtiahijhpjloijaaGreat.V

namespace Go.Proofs.YtiahijhpjloijaaGreat.V
open Go
noncomputable def rcheck (X:Cx) (K0:TypeId→Option (List Nat)) (ct:Nat→Option Con) (con:Con) (b:Fn) (σ:AS) (k:K) (s:Scr):Bool:=
 match aev X K0 ct con.lev k σ s with
 |some (l,s)=>match mapS (aend X con false b) l s with
  |some _=>true
  |none=>false
 |none=>false
theorem rcheck_ok {X:Cx} {K0:TypeId→Option (List Nat)} {ct:Nat→Option Con} {con:Con} {b:Fn} {s:Scr} {O2:Oracle2} {m:Nat} {σ:AS} {k:K} (hK:CmpOk X.P K0) (hct:∀f c,ct f=some c→c.lev<con.lev→ConOk X O2 f c) (hm:FUEL≤m)
 (hot:∀o∈con.outs,∀l,o.d=.tup l→l.length≠1) (h:rcheck X K0 ct con b σ k s=true) {e:AEnv} {g:GS} (hW:W X e σ g) (hnv:con.nv<σ.nv) (hp:PtrI con e):
 ∃z g',gev X.P O2 m k g=OutM z g'∧(∀j,z≠.exit j)∧∃hp ds,gres false b g'=some (hp,ds)∧Post X e con ds hp:=by
 unfold rcheck at h
 split at h
 case h_2=>cases h
 rename_i l s1 h1
 split at h
 case h_2=>cases h
 rename_i z0 h2;obtain⟨m0,s2⟩:=z0;obtain⟨z,hz,g',k1,k2,e1,k3,k4⟩:=aev_ok hK hct hm k _ _ _ _ _ _ hW h1;obtain⟨s3,s4,m1,h5,_⟩:=mapS_all h2 z hz;obtain⟨r1,hp',dsR,r2,r3⟩:=aend_ok hot h5 k4 (Nat.lt_of_lt_of_le hnv k2) (hp.agr k3 hnv);exact⟨z.1,g',k1,r1,hp',dsR,r2,r3.agr (k3.mono (Nat.le_of_lt hnv))⟩
theorem pcE (k i:Nat) (l:List U):pc k i l=(l.drop (i*k)).take k:=by unfold pc;rw[take_eq,drop_eq]
noncomputable def msU (ct:CT) (u:U):Option Int:=match ct,u with
 | .int k,.int k' n=>Bool.rec none (some n) (Nat.beq (kn k) (kn k'))
 | .bool,.bool b=>some (Bool.rec (-1) 0 b)
 | .str,.str l=>Bool.rec none (some (.ofNat (len l))) (all (fun b=>Nat.ble (Nat.succ b) 256) l)
 | .sl _ _,.nil=>some 0
 | .sl _ _,.fz _ n _=>some (.ofNat n)
 |_,_=>none
noncomputable def msL:List CT→List U→Option (List Int)
 |[],[]=>some []
 |c::cs,u::us=>match msU c u,msL cs us with|some m,some ms=>some (m::ms)|_,_=>none
 |_,_=>none
noncomputable def cfB (g:Nat→List Int→List U→Bool) (σ:Nat→Int):List CT→List U→Bool
 | .sl t ps::cs,.fz k n l::us=>(match kOf XX.T t with|some k'=>Nat.beq k' k|none=>false)&&(Nat.beq (len l) (n*k)&&(allN (fun j=>g t (ps.map (lv σ)) (pc k j l)) n&&cfB g σ cs us))
 |_::cs,_::us=>cfB g σ cs us
 |_,_=>true
noncomputable def cfEB:Nat→Nat→List Int→List U→Bool
 |0,_,_,_=>false
 |f+1,t,pv,c=>match XX.T t with
  |some ty=>match msL ty.cs c with
   |some ms=>all (fun x=>ile 0 (lv (sval ms pv) x)) ty.cons&&cfB (cfEB f) (sval ms pv) ty.cs c
   |none=>false
  |none=>false
theorem msU_ok {σ:Nat→Int} {ct:CT} {u:U} {m:Int} (h:msU ct u=some m) (hs:∀t ps k n l,ct=.sl t ps→u=.fz k n l→CfC XX.T ct σ u n):CfC XX.T ct σ u m:=by
 unfold msU at h
 split at h
 ·rename_i k k' n
  rw[brec']at h
  split at h
  ·rename_i hk
   have:=kn_inj hk;subst this
   cases h;exact .int _ _ _
  ·cases h
 ·rename_i b
  cases h
  have h1:(Bool.rec (-1) 0 b:Int)=if b=true then 0 else -1:=by cases b<;>rfl
  rw[h1];exact .bool _ _
 ·rename_i l
  rw[brec']at h
  split at h
  ·rename_i ha
   cases h
   rw[len_eq];exact .str _ _ fun b hb=>(ble_iff _ _).1 (all_true ha b hb)
  ·cases h
 ·cases h;exact .nil _ _ _
 ·cases h
  exact hs _ _ _ _ _ rfl rfl
 ·cases h
theorem cfCs_ok {g:Nat→List Int→List U→Bool} {σ:Nat→Int} (hg:∀t pv c,g t pv c=true→CfE XX.T t pv c):∀{cs:List CT} {us:List U} {ms:List Int},msL cs us=some ms→cfB g σ cs us=true→CfCs XX.T cs σ us ms
 |[],[],ms,h,_=>by cases h;exact .nil _
 |[],_::_,_,h,_=>by cases h
 |_::_,[],_,h,_=>by cases h
 |c::cs,u::us,ms,h,hb=>by
  have h:(match msU c u,msL cs us with|some m,some ms=>some (m::ms)|_,_=>none)=some ms:=h
  split at h
  case h_2=>cases h
  rename_i m ms' h1 h2
  cases h
  have key:∀t ps k n l,c=.sl t ps→u=.fz k n l→CfC XX.T c σ u n:=by
   rintro t ps k n l rfl rfl
   have hb:((match kOf XX.T t with|some k'=>Nat.beq k' k|none=>false)&&(Nat.beq (len l) (n*k)&&(allN (fun j=>g t (ps.map (lv σ)) (pc k j l)) n&&cfB g σ cs us)))=true:=hb;simp only[Bool.and_eq_true]at hb;obtain⟨b1,b2,b3,b4⟩:=hb
   split at b1
   ·rename_i k' hk
    rw[beq_iff]at b1 b2;subst b1;rw[len_eq]at b2;exact .fz _ _ _ _ _ _ hk b2 fun j hj=>by rw[←pcE];exact hg _ _ _ (allN_spec b3 j hj)
   ·cases b1
  have ht:cfB g σ cs us=true:=by
   by_cases hc:∃t ps k n l,c=.sl t ps∧u=.fz k n l
   ·obtain⟨t,ps,k,n,l,rfl,rfl⟩:=hc
    have hb:((match kOf XX.T t with|some k'=>Nat.beq k' k|none=>false)&&(Nat.beq (len l) (n*k)&&(allN (fun j=>g t (ps.map (lv σ)) (pc k j l)) n&&cfB g σ cs us)))=true:=hb;simp only[Bool.and_eq_true]at hb;exact hb.2.2.2
   ·cases c<;>cases u<;>first|exact hb|exact absurd ⟨_,_,_,_,_,rfl,rfl⟩ hc
  exact .cons _ _ _ _ _ _ _ (msU_ok h1 key) (cfCs_ok hg h2 ht)
theorem cfEB_ok:∀{f t:Nat} {pv:List Int} {c:List U},cfEB f t pv c=true→CfE XX.T t pv c
 |0,_,_,_,h=>by cases h
 |f+1,t,pv,c,h=>by
  unfold cfEB at h
  split at h
  case h_2=>cases h
  rename_i ty ht
  split at h
  case h_2=>cases h
  rename_i ms hm;rw[Bool.and_eq_true]at h;refine .mk _ _ _ ty ms ht (cfCs_ok (fun t pv c h=>cfEB_ok h) hm h.2) fun x hx=>?_
  have:=all_true h.1 x hx;rw[ile_eq,decide_eq_true_iff]at this;exact this
noncomputable def cfLB (t:Nat) (pv:List Int) (k n:Nat) (l:List U):Bool:=(match kOf XX.T t with|some k'=>Nat.beq k' k|none=>false)&&(Nat.beq (len l) (n*k)&&allN (fun j=>cfEB 5 t pv (pc k j l)) n)
theorem cfLB_ok {t:Nat} {pv:List Int} {k n:Nat} {l:List U} (h:cfLB t pv k n l=true):CfL XX.T t pv k n l:=by
 unfold cfLB at h;simp only[Bool.and_eq_true]at h;obtain⟨b1,b2,b3⟩:=h
 split at b1
 ·rename_i k' hk
  rw[beq_iff]at b1 b2;subst b1;rw[len_eq]at b2;exact⟨hk,b2,fun j hj=>by rw[←pcE];exact cfEB_ok (allN_spec b3 j hj)⟩
 ·cases b1
end Go.Proofs.YtiahijhpjloijaaGreat.V

