/- Parts of the proof, put together: S9, S10, S11, S12, S13, S14, S15, S16. -/
import Derived.Test.YtiahijhpjloijaaGreatM26
set_option linter.unusedVariables false
set_option linter.unusedSimpArgs false
namespace Go.Proofs.YtiahijhpjloijaaGreat.V
open Go
def LS (hp:List GO) (d:GD) (L:List Nat):Prop:=(L=[]∧d=.one (.v .nil))∨(L≠[]∧∃a,d=.one (.own a 1 L.length)∧nth hp a=some (.ob 23 false (mapsV (L.map .flt))))
theorem LS.kp {hp hp':List GO} {d:GD} {L:List Nat} (h:LS hp d L) (k:Kp hp hp'):LS hp' d L:=by
 rcases h with h|⟨h0,a,h1,h2⟩
 ·exact .inl h
 ·exact .inr ⟨h0,a,h1,k _ _ h2⟩
theorem LS.ko {hp hp':List GO} {d:GD} {L:List Nat} {e:Nat} (h:LS hp d L) (k:Ko e hp hp') (he:23≠e):LS hp' d L:=by
 rcases h with h|⟨h0,a,h1,h2⟩
 ·exact .inl h
 ·exact .inr ⟨h0,a,h1,k _ _ _ _ he h2⟩
theorem LS.one {hp:List GO} {a x:Nat} {L:List Nat} (h:nth hp a=some (.ob 23 false (mapsV [.flt x]))) (hL:L=[]):LS hp (.one (.own a 1 1)) (L++[x]):=by
 subst hL;exact .inr ⟨by simp,a,rfl,h⟩
theorem LS.add {hp:List GO} {a x:Nat} {L:List Nat} (h:nth hp a=some (.ob 23 false (app (mapsV (L.map .flt)) (mapsV [.flt x])))):LS hp (.one (.own a 1 (L.length+1))) (L++[x]):=by
 refine .inr ⟨by simp,a,by rw[List.length_append];rfl,?_⟩;rw[h,app_eq,mapsV_eq,mapsV_eq,mapsV_eq,List.map_append,List.map_append];rfl
def Ld (L:List Nat):GD:=match L with|[]=>.one (.v .nil)|L=>.one (.v (.fz 1 L.length (L.map .flt)))
theorem Ld_ne {L:List Nat} (h:L≠[]):Ld L=.one (.v (.fz 1 L.length (L.map .flt))):=by
 cases L with
 |nil=>exact absurd rfl h
 |cons x l=>rfl
def addL (L:List Nat) (g:Nat→Bool) (x:Nat→Nat):Nat→List Nat
 |0=>L
 |j+1=>bif g j then addL L g x j++[x j]else addL L g x j
theorem addL_len {L:List Nat} {g:Nat→Bool} {x:Nat→Nat}:∀j,(addL L g x j).length≤L.length+j
 |0=>Nat.le_refl _
 |j+1=>by
  have:=addL_len (L:=L) (g:=g) (x:=x) j;unfold addL
  cases g j
  ·simp only[cond_false];omega
  ·simp only[cond_true,List.length_append,List.length_cons,List.length_nil];omega
def outL (g:Nat→Nat→Bool) (x:Nat→Nat→Nat):Nat→List Nat
 |0=>[]
 |i+1=>addL (outL g x i) (g i) (x i) 6
theorem outL_len {g:Nat→Nat→Bool} {x:Nat→Nat→Nat}:∀i,(outL g x i).length≤i*6
 |0=>Nat.le_refl _
 |i+1=>by
  have h1:=outL_len (g:=g) (x:=x) i;have h2:=addL_len (L:=outL g x i) (g:=g i) (x:=x i) 6;unfold outL;omega
theorem room_le {n:Nat} (h:n≤40):Nat.ble (n*8) room=true:=Nat.ble_eq_true_of_le (by have h1:(320:Nat)≤room:=by decide+kernel
                                                                                    omega)
def L11o:K:=match b11.k with| .seq _ (.seq _ (.seq _ (.seq (.seq _ (.block _ (.loop a))) _)))=>a|_=>.skip
def L11i:K:=match b11.k with| .seq _ (.seq _ (.seq _ (.seq (.seq _ (.block _ (.loop (.seq _ (.seq _ (.seq (.block _ (.seq _ (.seq _ (.seq _ (.block _ (.loop a)))))) _)))))) _)))=>a|_=>.skip
def L12o:K:=match b12.k with| .seq _ (.seq _ (.seq _ (.seq (.seq _ (.block _ (.loop a))) _)))=>a|_=>.skip
def L12i:K:=match b12.k with| .seq _ (.seq _ (.seq _ (.seq (.seq _ (.block _ (.loop (.seq _ (.seq (.block _ (.seq _ (.seq _ (.seq _ (.block _ (.loop a)))))) _))))) _)))=>a|_=>.skip
theorem loop11i {ws cl:List U} {fl:Nat→List U} {lf:Nat→Nat→Int} {gt:Nat→Nat→Bool} {aW aR:Nat} {c:Nat} {hs sa:Int} {L0:List Nat} {P:Program} {O:Oracle2} {n:Nat} (hw:ws.length=19) (hq4:∀i,i<3→(pc 20 i cl)[4]?=some (.fz 8 6 (fl i))) (hL:∀i j,i<3→j<6→∃G,O 26 [.ag (mapsV ws),.one (.v (.int .i64 (.ofNat (i+1)))),.one (.v (.int .i64 (.ofNat (j+1))))] []=some (.one (.v (.int .i64 (lf i j))),G)) (hg:∀i j,i<3→j<6→cbin .gtr (.int .i64 (lf i j)) (.int .i64 (0))=some (.bool (gt i j))) (hc:c<3) (hL0:L0.length≤c*6) (hn:6<n) {tm:Tr GD} {hp:List GO} {d:GD} (kL:LS hp d (addL L0 (gt c) (fun j=>FloatKind.nearest .f64 (lf c j)) 0)) (kw0:nth hp aW=some (.ob 48 false (mapsV ws))) (kw1:nth hp aR=some (.ob 25 false (mapsV [.flt 0,.flt 0,.flt 0,.flt 0]))) (kh1:Tr.get p1 tm=some (.one (.loc aW 0))) (kh2:Tr.get p2 tm=some (.one (.loc aR 0))) (kh3:Tr.get p3 tm=some (.one (.v (.int .i64 hs)))) (kh4:Tr.get p4 tm=some (.one (.v (.int .i64 sa)))) (kh6:Tr.get p6 tm=some (.one (.v (.int .i64 (.ofNat c))))) (kh11:Tr.get p11 tm=some (.one (.v (.fz 20 3 cl)))) (kh12:Tr.get p12 tm=some (.one (.v (.int .i64 (.ofNat 3))))) (kh13:Tr.get p13 tm=some (.one (.v (.int .i64 (.ofNat c))))) (kh28:Tr.get p28 tm=some (.one (.v (.int .i64 (.ofNat 6))))) (kh29:Tr.get p29 tm=some (.one (.v (.int .i64 (.ofNat 0))))) (kh5:Tr.get p5 tm=some d):
 ∃t,gev P O n (.loop L11i) ⟨tm,hp⟩=.exit 2 t∧∃d',LS t.hp d' (addL L0 (gt c) (fun j=>FloatKind.nearest .f64 (lf c j)) 6)∧nth t.hp aW=some (.ob 48 false (mapsV ws))∧nth t.hp aR=some (.ob 25 false (mapsV [.flt 0,.flt 0,.flt 0,.flt 0]))∧Tr.get p1 t.tm=some (.one (.loc aW 0))∧Tr.get p2 t.tm=some (.one (.loc aR 0))∧Tr.get p3 t.tm=some (.one (.v (.int .i64 hs)))∧Tr.get p4 t.tm=some (.one (.v (.int .i64 sa)))∧Tr.get p6 t.tm=some (.one (.v (.int .i64 (.ofNat c))))∧Tr.get p11 t.tm=some (.one (.v (.fz 20 3 cl)))∧Tr.get p12 t.tm=some (.one (.v (.int .i64 (.ofNat 3))))∧Tr.get p13 t.tm=some (.one (.v (.int .i64 (.ofNat c))))∧Tr.get p28 t.tm=some (.one (.v (.int .i64 (.ofNat 6))))∧Tr.get p29 t.tm=some (.one (.v (.int .i64 (.ofNat 6))))∧Tr.get p5 t.tm=some d':=by
 refine iter_up (f:=gev P O n L11i) (I:=fun i g=>∃d,LS g.hp d (addL L0 (gt c) (fun j=>FloatKind.nearest .f64 (lf c j)) i)∧nth g.hp aW=some (.ob 48 false (mapsV ws))∧nth g.hp aR=some (.ob 25 false (mapsV [.flt 0,.flt 0,.flt 0,.flt 0]))∧Tr.get p1 g.tm=some (.one (.loc aW 0))∧Tr.get p2 g.tm=some (.one (.loc aR 0))∧Tr.get p3 g.tm=some (.one (.v (.int .i64 hs)))∧Tr.get p4 g.tm=some (.one (.v (.int .i64 sa)))∧Tr.get p6 g.tm=some (.one (.v (.int .i64 (.ofNat c))))∧Tr.get p11 g.tm=some (.one (.v (.fz 20 3 cl)))∧Tr.get p12 g.tm=some (.one (.v (.int .i64 (.ofNat 3))))∧Tr.get p13 g.tm=some (.one (.v (.int .i64 (.ofNat c))))∧Tr.get p28 g.tm=some (.one (.v (.int .i64 (.ofNat 6))))∧Tr.get p29 g.tm=some (.one (.v (.int .i64 (.ofNat i))))∧Tr.get p5 g.tm=some d) (N:=6) (id:=2) (Q:=fun t=>∃d',LS t.hp d' (addL L0 (gt c) (fun j=>FloatKind.nearest .f64 (lf c j)) 6)∧nth t.hp aW=some (.ob 48 false (mapsV ws))∧nth t.hp aR=some (.ob 25 false (mapsV [.flt 0,.flt 0,.flt 0,.flt 0]))∧Tr.get p1 t.tm=some (.one (.loc aW 0))∧Tr.get p2 t.tm=some (.one (.loc aR 0))∧Tr.get p3 t.tm=some (.one (.v (.int .i64 hs)))∧Tr.get p4 t.tm=some (.one (.v (.int .i64 sa)))∧Tr.get p6 t.tm=some (.one (.v (.int .i64 (.ofNat c))))∧Tr.get p11 t.tm=some (.one (.v (.fz 20 3 cl)))∧Tr.get p12 t.tm=some (.one (.v (.int .i64 (.ofNat 3))))∧Tr.get p13 t.tm=some (.one (.v (.int .i64 (.ofNat c))))∧Tr.get p28 t.tm=some (.one (.v (.int .i64 (.ofNat 6))))∧Tr.get p29 t.tm=some (.one (.v (.int .i64 (.ofNat 6))))∧Tr.get p5 t.tm=some d') ?_ ?_ 6 0 ⟨tm,hp⟩ n (by omega) hn ⟨d,kL,kw0,kw1,kh1,kh2,kh3,kh4,kh6,kh11,kh12,kh13,kh28,kh29,kh5⟩
 ·rintro i ⟨tm,hp0⟩ hi ⟨d,hLS,w0,w1,h1,h2,h3,h4,h6,h11,h12,h13,h28,h29,h5⟩
  show Wp P O n L11i ⟨tm,hp0⟩ (fun o=>∃g',o=.norm g'∧∃d',LS g'.hp d' (addL L0 (gt c) (fun j=>FloatKind.nearest .f64 (lf c j)) (i+1))∧nth g'.hp aW=some (.ob 48 false (mapsV ws))∧nth g'.hp aR=some (.ob 25 false (mapsV [.flt 0,.flt 0,.flt 0,.flt 0]))∧Tr.get p1 g'.tm=some (.one (.loc aW 0))∧Tr.get p2 g'.tm=some (.one (.loc aR 0))∧Tr.get p3 g'.tm=some (.one (.v (.int .i64 hs)))∧Tr.get p4 g'.tm=some (.one (.v (.int .i64 sa)))∧Tr.get p6 g'.tm=some (.one (.v (.int .i64 (.ofNat c))))∧Tr.get p11 g'.tm=some (.one (.v (.fz 20 3 cl)))∧Tr.get p12 g'.tm=some (.one (.v (.int .i64 (.ofNat 3))))∧Tr.get p13 g'.tm=some (.one (.v (.int .i64 (.ofNat c))))∧Tr.get p28 g'.tm=some (.one (.v (.int .i64 (.ofNat 6))))∧Tr.get p29 g'.tm=some (.one (.v (.int .i64 (.ofNat (i+1)))))∧Tr.get p5 g'.tm=some d');obtain⟨G,hO⟩:=hL c i hc hi;have hgi:=hg c i hc hi;have hlen:=addL_len (L:=L0) (g:=gt c) (x:=fun j=>FloatKind.nearest .f64 (lf c j)) i;have hLn:addL L0 (gt c) (fun j=>FloatKind.nearest .f64 (lf c j)) (i+1)=bif gt c i then addL L0 (gt c) (fun j=>FloatKind.nearest .f64 (lf c j)) i++[FloatKind.nearest .f64 (lf c i)]else addL L0 (gt c) (fun j=>FloatKind.nearest .f64 (lf c j)) i:=rfl;rw[hLn]
  cases hgb:gt c i
  ·rw[hgb]at hgi
   refine wSeq (wBlk (ggo (sBin (c:=.bool true) rfl h29 h28 rfl rfl (ltT hi) rfl) (gnil (nNorm (wSeq (wCond (t:=true) vhit (wSkip (nNorm (wSeq (wBlock (wSeq ?_)))))))))));refine wBlk (ggo (sMv rfl (v1 rfl h29)) (ggo (sMv rfl vhit) (gnil (nNorm (wSeq (wBlk (ggo (sLdO rfl (v2 rfl (v1 rfl h1)) w0 (ldVall hw) (len_mapsV hw) rfl) (ggo (sMv rfl (v4 rfl h6)) (ggo (sBin (c:=.int .i64 (.ofNat (c+1))) rfl vhit rfl rfl rfl (inc64 (by omega)) rfl) (ggo (sMv rfl (v2 rfl (v1 rfl vhit))) (ggo (sBin (c:=.int .i64 (.ofNat (i+1))) rfl vhit rfl rfl rfl (inc64 (by omega)) rfl) ?_)))))))))));refine cCall (ds:=[.ag (mapsV ws),.one (.v (.int .i64 (.ofNat (c+1)))),.one (.v (.int .i64 (.ofNat (i+1))))]) rfl (args3 ((v4 rfl vhit)) ((v2 rfl vhit)) (vhit)) (.ag (.one (.one .nil))) (hO) ?_;intro hpx1 mx2;replace w0:=mx2 _ _ w0;replace w1:=mx2 _ _ w1;replace hLS:=hLS.kp mx2;refine ggo (sMv rfl vhit) (gnil (nNorm (wSeq (wBlk (ggo (sMv rfl vhit) (ggo (sBin (c:=.bool false) rfl vhit rfl rfl rfl hgi rfl) (gnil (nNorm (wCond (t:=false) vhit (wSkip (bNorm ?_)))))))))));refine nNorm (wBlk (ggo (sBin (c:=.int .i64 (.ofNat (i+1))) rfl (v8 rfl (v4 rfl h29)) rfl rfl rfl (inc64 (by omega)) rfl) (ggo (sMv rfl vhit) (gnil ?_))));refine⟨_,rfl,_,hLS,w0,w1,?_,?_,?_,?_,?_,?_,?_,?_,?_,?_,?_⟩
   ·exact gQ (v8 rfl (v4 rfl (v2 rfl h1)))
   ·exact gQ (v8 rfl (v4 rfl (v2 rfl h2)))
   ·exact gQ (v8 rfl (v4 rfl (v2 rfl h3)))
   ·exact gQ (v8 rfl (v4 rfl (v2 rfl h4)))
   ·exact gQ (v8 rfl (v4 rfl (v2 rfl h6)))
   ·exact gQ (v8 rfl (v4 rfl (v2 rfl h11)))
   ·exact gQ (v8 rfl (v4 rfl (v2 rfl h12)))
   ·exact gQ (v8 rfl (v4 rfl (v2 rfl h13)))
   ·exact gQ (v8 rfl (v4 rfl (v2 rfl h28)))
   ·exact gQ vhit
   ·exact gQ (v8 rfl (v4 rfl (v2 rfl h5)))
  ·rw[hgb]at hgi
   rcases hLS with⟨hLe,rfl⟩|⟨hLe,aL,rfl,wL⟩
   ·refine wSeq (wBlk (ggo (sBin (c:=.bool true) rfl h29 h28 rfl rfl (ltT hi) rfl) (gnil (nNorm (wSeq (wCond (t:=true) vhit (wSkip (nNorm (wSeq (wBlock (wSeq ?_)))))))))))
    refine wBlk (ggo (sMv rfl (v1 rfl h29)) (ggo (sMv rfl vhit) (gnil (nNorm (wSeq (wBlk (ggo (sLdO rfl (v2 rfl (v1 rfl h1)) w0 (ldVall hw) (len_mapsV hw) rfl) (ggo (sMv rfl (v4 rfl h6)) (ggo (sBin (c:=.int .i64 (.ofNat (c+1))) rfl vhit rfl rfl rfl (inc64 (by omega)) rfl) (ggo (sMv rfl (v2 rfl (v1 rfl vhit))) (ggo (sBin (c:=.int .i64 (.ofNat (i+1))) rfl vhit rfl rfl rfl (inc64 (by omega)) rfl) ?_)))))))))));refine cCall (ds:=[.ag (mapsV ws),.one (.v (.int .i64 (.ofNat (c+1)))),.one (.v (.int .i64 (.ofNat (i+1))))]) rfl (args3 ((v4 rfl vhit)) ((v2 rfl vhit)) (vhit)) (.ag (.one (.one .nil))) (hO) ?_;intro hpx1 mx2;replace w0:=mx2 _ _ w0;replace w1:=mx2 _ _ w1;refine ggo (sMv rfl vhit) (gnil (nNorm (wSeq (wBlk (ggo (sMv rfl vhit) (ggo (sBin (c:=.bool true) rfl vhit rfl rfl rfl hgi rfl) (gnil (nNorm (wCond (t:=true) vhit (wBlk (ggo (sMv rfl (v8 rfl (v4 rfl h5))) ?_)))))))))));refine ggo (sMv rfl (v2 rfl (v1 rfl vhit))) (ggo (sCvf rfl vhit) (cBsl (cs:=mapsV [.flt (FloatKind.nearest .f64 (lf c i))]) rfl rfl (gfill1 vhit rfl) ?_));intro ax3 hpx4 mx5 wx6;replace w0:=mx5 _ _ w0;replace w1:=mx5 _ _ w1;refine cApN rfl (v2 rfl (v1 rfl vhit)) vhit wx6 rfl (room_le (by decide)) ?_;intro ax7 hpx8 mx9 wx10;replace w0:=mx9 _ _ w0;replace w1:=mx9 _ _ w1;replace wx6:=mx9 _ _ wx6;refine ggo (sMv rfl vhit) (gnil (bNorm (nNorm (wBlk (ggo (sBin (c:=.int .i64 (.ofNat (i+1))) rfl (v8 rfl (v8 rfl (v2 rfl h29))) rfl rfl rfl (inc64 (by omega)) rfl) (ggo (sMv rfl vhit) (gnil ?_)))))));refine⟨_,rfl,_,(.one wx10 hLe),w0,w1,?_,?_,?_,?_,?_,?_,?_,?_,?_,?_,?_⟩
    ·exact gQ (v8 rfl (v8 rfl (v4 rfl h1)))
    ·exact gQ (v8 rfl (v8 rfl (v4 rfl h2)))
    ·exact gQ (v8 rfl (v8 rfl (v4 rfl h3)))
    ·exact gQ (v8 rfl (v8 rfl (v4 rfl h4)))
    ·exact gQ (v8 rfl (v8 rfl (v4 rfl h6)))
    ·exact gQ (v8 rfl (v8 rfl (v4 rfl h11)))
    ·exact gQ (v8 rfl (v8 rfl (v4 rfl h12)))
    ·exact gQ (v8 rfl (v8 rfl (v4 rfl h13)))
    ·exact gQ (v8 rfl (v8 rfl (v4 rfl h28)))
    ·exact gQ vhit
    ·exact gQ (v2 rfl vhit)
   ·refine wSeq (wBlk (ggo (sBin (c:=.bool true) rfl h29 h28 rfl rfl (ltT hi) rfl) (gnil (nNorm (wSeq (wCond (t:=true) vhit (wSkip (nNorm (wSeq (wBlock (wSeq ?_)))))))))))
    refine wBlk (ggo (sMv rfl (v1 rfl h29)) (ggo (sMv rfl vhit) (gnil (nNorm (wSeq (wBlk (ggo (sLdO rfl (v2 rfl (v1 rfl h1)) w0 (ldVall hw) (len_mapsV hw) rfl) (ggo (sMv rfl (v4 rfl h6)) (ggo (sBin (c:=.int .i64 (.ofNat (c+1))) rfl vhit rfl rfl rfl (inc64 (by omega)) rfl) (ggo (sMv rfl (v2 rfl (v1 rfl vhit))) (ggo (sBin (c:=.int .i64 (.ofNat (i+1))) rfl vhit rfl rfl rfl (inc64 (by omega)) rfl) ?_)))))))))));refine cCall (ds:=[.ag (mapsV ws),.one (.v (.int .i64 (.ofNat (c+1)))),.one (.v (.int .i64 (.ofNat (i+1))))]) rfl (args3 ((v4 rfl vhit)) ((v2 rfl vhit)) (vhit)) (.ag (.one (.one .nil))) (hO) ?_;intro hpx1 mx2;replace w0:=mx2 _ _ w0;replace w1:=mx2 _ _ w1;replace wL:=mx2 _ _ wL;refine ggo (sMv rfl vhit) (gnil (nNorm (wSeq (wBlk (ggo (sMv rfl vhit) (ggo (sBin (c:=.bool true) rfl vhit rfl rfl rfl hgi rfl) (gnil (nNorm (wCond (t:=true) vhit (wBlk (ggo (sMv rfl (v8 rfl (v4 rfl h5))) ?_)))))))))));refine ggo (sMv rfl (v2 rfl (v1 rfl vhit))) (ggo (sCvf rfl vhit) (cBsl (cs:=mapsV [.flt (FloatKind.nearest .f64 (lf c i))]) rfl rfl (gfill1 vhit rfl) ?_));intro ax3 hpx4 mx5 wx6;replace w0:=mx5 _ _ w0;replace w1:=mx5 _ _ w1;replace wL:=mx5 _ _ wL;refine cApO rfl (v2 rfl (v1 rfl vhit)) vhit wL (len_mapsV (List.length_map _)) wx6 rfl (room_le (by omega)) ?_;intro ax7 hpx8 mx9 wx10;replace w0:=mx9 _ _ _ _ (by decide) w0;replace w1:=mx9 _ _ _ _ (by decide) w1;refine ggo (sMv rfl vhit) (gnil (bNorm (nNorm (wBlk (ggo (sBin (c:=.int .i64 (.ofNat (i+1))) rfl (v8 rfl (v8 rfl (v2 rfl h29))) rfl rfl rfl (inc64 (by omega)) rfl) (ggo (sMv rfl vhit) (gnil ?_)))))));refine⟨_,rfl,_,(.add wx10),w0,w1,?_,?_,?_,?_,?_,?_,?_,?_,?_,?_,?_⟩
    ·exact gQ (v8 rfl (v8 rfl (v4 rfl h1)))
    ·exact gQ (v8 rfl (v8 rfl (v4 rfl h2)))
    ·exact gQ (v8 rfl (v8 rfl (v4 rfl h3)))
    ·exact gQ (v8 rfl (v8 rfl (v4 rfl h4)))
    ·exact gQ (v8 rfl (v8 rfl (v4 rfl h6)))
    ·exact gQ (v8 rfl (v8 rfl (v4 rfl h11)))
    ·exact gQ (v8 rfl (v8 rfl (v4 rfl h12)))
    ·exact gQ (v8 rfl (v8 rfl (v4 rfl h13)))
    ·exact gQ (v8 rfl (v8 rfl (v4 rfl h28)))
    ·exact gQ vhit
    ·exact gQ (v2 rfl vhit)
 ·rintro ⟨tm,hp0⟩ ⟨d,hLS,w0,w1,h1,h2,h3,h4,h6,h11,h12,h13,h28,h29,h5⟩
  show Wp P O n L11i ⟨tm,hp0⟩ (fun o=>∃g',o=.exit 2 g'∧∃d',LS g'.hp d' (addL L0 (gt c) (fun j=>FloatKind.nearest .f64 (lf c j)) 6)∧nth g'.hp aW=some (.ob 48 false (mapsV ws))∧nth g'.hp aR=some (.ob 25 false (mapsV [.flt 0,.flt 0,.flt 0,.flt 0]))∧Tr.get p1 g'.tm=some (.one (.loc aW 0))∧Tr.get p2 g'.tm=some (.one (.loc aR 0))∧Tr.get p3 g'.tm=some (.one (.v (.int .i64 hs)))∧Tr.get p4 g'.tm=some (.one (.v (.int .i64 sa)))∧Tr.get p6 g'.tm=some (.one (.v (.int .i64 (.ofNat c))))∧Tr.get p11 g'.tm=some (.one (.v (.fz 20 3 cl)))∧Tr.get p12 g'.tm=some (.one (.v (.int .i64 (.ofNat 3))))∧Tr.get p13 g'.tm=some (.one (.v (.int .i64 (.ofNat c))))∧Tr.get p28 g'.tm=some (.one (.v (.int .i64 (.ofNat 6))))∧Tr.get p29 g'.tm=some (.one (.v (.int .i64 (.ofNat 6))))∧Tr.get p5 g'.tm=some d');refine wSeq (wBlk (ggo (sBin (c:=.bool false) rfl h29 h28 rfl rfl (ltF (Nat.le_refl _)) rfl) (gnil (nNorm (wSeq (wCond (t:=false) vhit (wExit (nExit ?_))))))));refine⟨_,rfl,_,hLS,w0,w1,?_,?_,?_,?_,?_,?_,?_,?_,?_,?_,?_⟩
  ·exact gQ (v1 rfl h1)
  ·exact gQ (v1 rfl h2)
  ·exact gQ (v1 rfl h3)
  ·exact gQ (v1 rfl h4)
  ·exact gQ (v1 rfl h6)
  ·exact gQ (v1 rfl h11)
  ·exact gQ (v1 rfl h12)
  ·exact gQ (v1 rfl h13)
  ·exact gQ (v1 rfl h28)
  ·exact gQ (v1 rfl h29)
  ·exact gQ (v1 rfl h5)
theorem loop12i {ws cl:List U} {fl:Nat→List U} {lf:Nat→Nat→Int} {gt:Nat→Nat→Bool} {aW aR aC:Nat} {c:Nat} {hs sa:Int} {L0:List Nat} {P:Program} {O:Oracle2} {n:Nat} (hw:ws.length=19) (hq4:∀i,i<3→(pc 20 i cl)[4]?=some (.fz 8 6 (fl i))) (hL:∀i j,i<3→j<6→∃G,O 15 [.ag (mapsV ws),.one (.v (.int .i64 (.ofNat (i+1)))),.one (.v (.int .i64 (.ofNat (j+1))))] []=some (.one (.v (.int .i64 (lf i j))),G)) (hg:∀i j,i<3→j<6→cbin .gtr (.int .i64 (lf i j)) (.int .i64 (0))=some (.bool (gt i j))) (hc:c<3) (hL0:L0.length≤c*6) (hn:6<n) {tm:Tr GD} {hp:List GO} {d:GD} (kL:LS hp d (addL L0 (gt c) (fun j=>FloatKind.nearest .f64 (lf c j)) 0)) (kw0:nth hp aW=some (.ob 48 false (mapsV ws))) (kw1:nth hp aR=some (.ob 25 false (mapsV [.flt 0,.flt 0,.flt 0,.flt 0]))) (kw2:nth hp aC=some (.ob 83 false (mapsV (pc 20 c cl)))) (kh1:Tr.get p1 tm=some (.one (.loc aW 0))) (kh2:Tr.get p2 tm=some (.one (.loc aR 0))) (kh3:Tr.get p3 tm=some (.one (.v (.int .i64 hs)))) (kh4:Tr.get p4 tm=some (.one (.v (.int .i64 sa)))) (kh6:Tr.get p6 tm=some (.one (.v (.int .i64 (.ofNat (c+1)))))) (kh7:Tr.get p7 tm=some (.one (.loc aC 0))) (kh8:Tr.get p8 tm=some (.one (.v (.int .i64 (.ofNat (0+1)))))) (kh5:Tr.get p5 tm=some d):
 ∃t,gev P O n (.loop L12i) ⟨tm,hp⟩=.exit 2 t∧∃d',LS t.hp d' (addL L0 (gt c) (fun j=>FloatKind.nearest .f64 (lf c j)) 6)∧nth t.hp aW=some (.ob 48 false (mapsV ws))∧nth t.hp aR=some (.ob 25 false (mapsV [.flt 0,.flt 0,.flt 0,.flt 0]))∧nth t.hp aC=some (.ob 83 false (mapsV (pc 20 c cl)))∧Tr.get p1 t.tm=some (.one (.loc aW 0))∧Tr.get p2 t.tm=some (.one (.loc aR 0))∧Tr.get p3 t.tm=some (.one (.v (.int .i64 hs)))∧Tr.get p4 t.tm=some (.one (.v (.int .i64 sa)))∧Tr.get p6 t.tm=some (.one (.v (.int .i64 (.ofNat (c+1)))))∧Tr.get p7 t.tm=some (.one (.loc aC 0))∧Tr.get p8 t.tm=some (.one (.v (.int .i64 (.ofNat (6+1)))))∧Tr.get p5 t.tm=some d':=by
 refine iter_up (f:=gev P O n L12i) (I:=fun i g=>∃d,LS g.hp d (addL L0 (gt c) (fun j=>FloatKind.nearest .f64 (lf c j)) i)∧nth g.hp aW=some (.ob 48 false (mapsV ws))∧nth g.hp aR=some (.ob 25 false (mapsV [.flt 0,.flt 0,.flt 0,.flt 0]))∧nth g.hp aC=some (.ob 83 false (mapsV (pc 20 c cl)))∧Tr.get p1 g.tm=some (.one (.loc aW 0))∧Tr.get p2 g.tm=some (.one (.loc aR 0))∧Tr.get p3 g.tm=some (.one (.v (.int .i64 hs)))∧Tr.get p4 g.tm=some (.one (.v (.int .i64 sa)))∧Tr.get p6 g.tm=some (.one (.v (.int .i64 (.ofNat (c+1)))))∧Tr.get p7 g.tm=some (.one (.loc aC 0))∧Tr.get p8 g.tm=some (.one (.v (.int .i64 (.ofNat (i+1)))))∧Tr.get p5 g.tm=some d) (N:=6) (id:=2) (Q:=fun t=>∃d',LS t.hp d' (addL L0 (gt c) (fun j=>FloatKind.nearest .f64 (lf c j)) 6)∧nth t.hp aW=some (.ob 48 false (mapsV ws))∧nth t.hp aR=some (.ob 25 false (mapsV [.flt 0,.flt 0,.flt 0,.flt 0]))∧nth t.hp aC=some (.ob 83 false (mapsV (pc 20 c cl)))∧Tr.get p1 t.tm=some (.one (.loc aW 0))∧Tr.get p2 t.tm=some (.one (.loc aR 0))∧Tr.get p3 t.tm=some (.one (.v (.int .i64 hs)))∧Tr.get p4 t.tm=some (.one (.v (.int .i64 sa)))∧Tr.get p6 t.tm=some (.one (.v (.int .i64 (.ofNat (c+1)))))∧Tr.get p7 t.tm=some (.one (.loc aC 0))∧Tr.get p8 t.tm=some (.one (.v (.int .i64 (.ofNat (6+1)))))∧Tr.get p5 t.tm=some d') ?_ ?_ 6 0 ⟨tm,hp⟩ n (by omega) hn ⟨d,kL,kw0,kw1,kw2,kh1,kh2,kh3,kh4,kh6,kh7,kh8,kh5⟩
 ·rintro i ⟨tm,hp0⟩ hi ⟨d,hLS,w0,w1,w2,h1,h2,h3,h4,h6,h7,h8,h5⟩
  show Wp P O n L12i ⟨tm,hp0⟩ (fun o=>∃g',o=.norm g'∧∃d',LS g'.hp d' (addL L0 (gt c) (fun j=>FloatKind.nearest .f64 (lf c j)) (i+1))∧nth g'.hp aW=some (.ob 48 false (mapsV ws))∧nth g'.hp aR=some (.ob 25 false (mapsV [.flt 0,.flt 0,.flt 0,.flt 0]))∧nth g'.hp aC=some (.ob 83 false (mapsV (pc 20 c cl)))∧Tr.get p1 g'.tm=some (.one (.loc aW 0))∧Tr.get p2 g'.tm=some (.one (.loc aR 0))∧Tr.get p3 g'.tm=some (.one (.v (.int .i64 hs)))∧Tr.get p4 g'.tm=some (.one (.v (.int .i64 sa)))∧Tr.get p6 g'.tm=some (.one (.v (.int .i64 (.ofNat (c+1)))))∧Tr.get p7 g'.tm=some (.one (.loc aC 0))∧Tr.get p8 g'.tm=some (.one (.v (.int .i64 (.ofNat ((i+1)+1)))))∧Tr.get p5 g'.tm=some d');obtain⟨G,hO⟩:=hL c i hc hi;have hgi:=hg c i hc hi;have hlen:=addL_len (L:=L0) (g:=gt c) (x:=fun j=>FloatKind.nearest .f64 (lf c j)) i;have hLn:addL L0 (gt c) (fun j=>FloatKind.nearest .f64 (lf c j)) (i+1)=bif gt c i then addL L0 (gt c) (fun j=>FloatKind.nearest .f64 (lf c j)) i++[FloatKind.nearest .f64 (lf c i)]else addL L0 (gt c) (fun j=>FloatKind.nearest .f64 (lf c j)) i:=rfl;rw[hLn]
  cases hgb:gt c i
  ·rw[hgb]at hgi
   refine wSeq (wSeq (wBlk (ggo (sMv rfl h8) (ggo (sFaL rfl (v1 rfl h7)) (ggo (sLdO (d:=.one (.v (.fz 8 6 (fl c)))) rfl vhit w2 (ldV1 (hq4 c hc)) rfl rfl) (ggo (sLenF rfl vhit) (ggo (sBin (c:=.bool true) rfl (v2 rfl (v1 rfl vhit)) vhit rfl rfl (leT (by omega)) rfl) (gnil (nNorm (wCond (t:=true) vhit (wSkip ?_)))))))))));refine nNorm (wSeq (wBlock (wSeq (wBlk (ggo (sLdO rfl (v4 rfl (v1 rfl h1)) w0 (ldVall hw) (len_mapsV hw) rfl) (ggo (sMv rfl (v4 rfl (v2 rfl h6))) (ggo (sMv rfl (v4 rfl (v2 rfl (v1 rfl h8)))) (cCall (ds:=[.ag (mapsV ws),.one (.v (.int .i64 (.ofNat (c+1)))),.one (.v (.int .i64 (.ofNat (i+1))))]) rfl (args3 ((v2 rfl vhit)) ((v1 rfl vhit)) (vhit)) (.ag (.one (.one .nil))) (hO) ?_))))))));intro hpx1 mx2;replace w0:=mx2 _ _ w0;replace w1:=mx2 _ _ w1;replace w2:=mx2 _ _ w2;replace hLS:=hLS.kp mx2;refine ggo (sMv rfl vhit) (gnil (nNorm (wSeq (wBlk (ggo (sMv rfl vhit) (ggo (sBin (c:=.bool false) rfl vhit rfl rfl rfl hgi rfl) (gnil (nNorm (wCond (t:=false) vhit (wSkip (bNorm ?_)))))))))));refine nNorm (wBlk (ggo (sMv rfl (v8 rfl (v4 rfl h8))) (ggo (sBin (c:=.int .i64 (.ofNat (i+1+1))) rfl vhit rfl rfl rfl (inc64 (by omega)) rfl) (ggo (sMv rfl vhit) (gnil ?_)))));refine⟨_,rfl,_,hLS,w0,w1,w2,?_,?_,?_,?_,?_,?_,?_,?_⟩
   ·exact gQ (v8 rfl (v4 rfl (v2 rfl (v1 rfl h1))))
   ·exact gQ (v8 rfl (v4 rfl (v2 rfl (v1 rfl h2))))
   ·exact gQ (v8 rfl (v4 rfl (v2 rfl (v1 rfl h3))))
   ·exact gQ (v8 rfl (v4 rfl (v2 rfl (v1 rfl h4))))
   ·exact gQ (v8 rfl (v4 rfl (v2 rfl (v1 rfl h6))))
   ·exact gQ (v8 rfl (v4 rfl (v2 rfl (v1 rfl h7))))
   ·exact gQ vhit
   ·exact gQ (v8 rfl (v4 rfl (v2 rfl (v1 rfl h5))))
  ·rw[hgb]at hgi
   rcases hLS with⟨hLe,rfl⟩|⟨hLe,aL,rfl,wL⟩
   ·refine wSeq (wSeq (wBlk (ggo (sMv rfl h8) (ggo (sFaL rfl (v1 rfl h7)) (ggo (sLdO (d:=.one (.v (.fz 8 6 (fl c)))) rfl vhit w2 (ldV1 (hq4 c hc)) rfl rfl) (ggo (sLenF rfl vhit) (ggo (sBin (c:=.bool true) rfl (v2 rfl (v1 rfl vhit)) vhit rfl rfl (leT (by omega)) rfl) (gnil (nNorm (wCond (t:=true) vhit (wSkip ?_)))))))))))
    refine nNorm (wSeq (wBlock (wSeq (wBlk (ggo (sLdO rfl (v4 rfl (v1 rfl h1)) w0 (ldVall hw) (len_mapsV hw) rfl) (ggo (sMv rfl (v4 rfl (v2 rfl h6))) (ggo (sMv rfl (v4 rfl (v2 rfl (v1 rfl h8)))) (cCall (ds:=[.ag (mapsV ws),.one (.v (.int .i64 (.ofNat (c+1)))),.one (.v (.int .i64 (.ofNat (i+1))))]) rfl (args3 ((v2 rfl vhit)) ((v1 rfl vhit)) (vhit)) (.ag (.one (.one .nil))) (hO) ?_))))))));intro hpx1 mx2;replace w0:=mx2 _ _ w0;replace w1:=mx2 _ _ w1;replace w2:=mx2 _ _ w2;refine ggo (sMv rfl vhit) (gnil (nNorm (wSeq (wBlk (ggo (sMv rfl vhit) (ggo (sBin (c:=.bool true) rfl vhit rfl rfl rfl hgi rfl) (gnil (nNorm (wCond (t:=true) vhit (wBlk (ggo (sMv rfl (v8 rfl (v4 rfl h5))) ?_)))))))))));refine ggo (sMv rfl (v2 rfl (v1 rfl vhit))) (ggo (sCvf rfl vhit) (cBsl (cs:=mapsV [.flt (FloatKind.nearest .f64 (lf c i))]) rfl rfl (gfill1 vhit rfl) ?_));intro ax3 hpx4 mx5 wx6;replace w0:=mx5 _ _ w0;replace w1:=mx5 _ _ w1;replace w2:=mx5 _ _ w2;refine cApN rfl (v2 rfl (v1 rfl vhit)) vhit wx6 rfl (room_le (by decide)) ?_;intro ax7 hpx8 mx9 wx10;replace w0:=mx9 _ _ w0;replace w1:=mx9 _ _ w1;replace w2:=mx9 _ _ w2;replace wx6:=mx9 _ _ wx6;refine ggo (sMv rfl vhit) (gnil (bNorm (nNorm (wBlk (ggo (sMv rfl (v8 rfl (v8 rfl (v2 rfl h8)))) (ggo (sBin (c:=.int .i64 (.ofNat (i+1+1))) rfl vhit rfl rfl rfl (inc64 (by omega)) rfl) (ggo (sMv rfl vhit) (gnil ?_))))))));refine⟨_,rfl,_,(.one wx10 hLe),w0,w1,w2,?_,?_,?_,?_,?_,?_,?_,?_⟩
    ·exact gQ (v8 rfl (v8 rfl (v4 rfl (v1 rfl h1))))
    ·exact gQ (v8 rfl (v8 rfl (v4 rfl (v1 rfl h2))))
    ·exact gQ (v8 rfl (v8 rfl (v4 rfl (v1 rfl h3))))
    ·exact gQ (v8 rfl (v8 rfl (v4 rfl (v1 rfl h4))))
    ·exact gQ (v8 rfl (v8 rfl (v4 rfl (v1 rfl h6))))
    ·exact gQ (v8 rfl (v8 rfl (v4 rfl (v1 rfl h7))))
    ·exact gQ vhit
    ·exact gQ (v2 rfl (v1 rfl vhit))
   ·refine wSeq (wSeq (wBlk (ggo (sMv rfl h8) (ggo (sFaL rfl (v1 rfl h7)) (ggo (sLdO (d:=.one (.v (.fz 8 6 (fl c)))) rfl vhit w2 (ldV1 (hq4 c hc)) rfl rfl) (ggo (sLenF rfl vhit) (ggo (sBin (c:=.bool true) rfl (v2 rfl (v1 rfl vhit)) vhit rfl rfl (leT (by omega)) rfl) (gnil (nNorm (wCond (t:=true) vhit (wSkip ?_)))))))))))
    refine nNorm (wSeq (wBlock (wSeq (wBlk (ggo (sLdO rfl (v4 rfl (v1 rfl h1)) w0 (ldVall hw) (len_mapsV hw) rfl) (ggo (sMv rfl (v4 rfl (v2 rfl h6))) (ggo (sMv rfl (v4 rfl (v2 rfl (v1 rfl h8)))) (cCall (ds:=[.ag (mapsV ws),.one (.v (.int .i64 (.ofNat (c+1)))),.one (.v (.int .i64 (.ofNat (i+1))))]) rfl (args3 ((v2 rfl vhit)) ((v1 rfl vhit)) (vhit)) (.ag (.one (.one .nil))) (hO) ?_))))))));intro hpx1 mx2;replace w0:=mx2 _ _ w0;replace w1:=mx2 _ _ w1;replace w2:=mx2 _ _ w2;replace wL:=mx2 _ _ wL;refine ggo (sMv rfl vhit) (gnil (nNorm (wSeq (wBlk (ggo (sMv rfl vhit) (ggo (sBin (c:=.bool true) rfl vhit rfl rfl rfl hgi rfl) (gnil (nNorm (wCond (t:=true) vhit (wBlk (ggo (sMv rfl (v8 rfl (v4 rfl h5))) ?_)))))))))));refine ggo (sMv rfl (v2 rfl (v1 rfl vhit))) (ggo (sCvf rfl vhit) (cBsl (cs:=mapsV [.flt (FloatKind.nearest .f64 (lf c i))]) rfl rfl (gfill1 vhit rfl) ?_));intro ax3 hpx4 mx5 wx6;replace w0:=mx5 _ _ w0;replace w1:=mx5 _ _ w1;replace w2:=mx5 _ _ w2;replace wL:=mx5 _ _ wL;refine cApO rfl (v2 rfl (v1 rfl vhit)) vhit wL (len_mapsV (List.length_map _)) wx6 rfl (room_le (by omega)) ?_;intro ax7 hpx8 mx9 wx10;replace w0:=mx9 _ _ _ _ (by decide) w0;replace w1:=mx9 _ _ _ _ (by decide) w1;replace w2:=mx9 _ _ _ _ (by decide) w2;refine ggo (sMv rfl vhit) (gnil (bNorm (nNorm (wBlk (ggo (sMv rfl (v8 rfl (v8 rfl (v2 rfl h8)))) (ggo (sBin (c:=.int .i64 (.ofNat (i+1+1))) rfl vhit rfl rfl rfl (inc64 (by omega)) rfl) (ggo (sMv rfl vhit) (gnil ?_))))))));refine⟨_,rfl,_,(.add wx10),w0,w1,w2,?_,?_,?_,?_,?_,?_,?_,?_⟩
    ·exact gQ (v8 rfl (v8 rfl (v4 rfl (v1 rfl h1))))
    ·exact gQ (v8 rfl (v8 rfl (v4 rfl (v1 rfl h2))))
    ·exact gQ (v8 rfl (v8 rfl (v4 rfl (v1 rfl h3))))
    ·exact gQ (v8 rfl (v8 rfl (v4 rfl (v1 rfl h4))))
    ·exact gQ (v8 rfl (v8 rfl (v4 rfl (v1 rfl h6))))
    ·exact gQ (v8 rfl (v8 rfl (v4 rfl (v1 rfl h7))))
    ·exact gQ vhit
    ·exact gQ (v2 rfl (v1 rfl vhit))
 ·rintro ⟨tm,hp0⟩ ⟨d,hLS,w0,w1,w2,h1,h2,h3,h4,h6,h7,h8,h5⟩
  show Wp P O n L12i ⟨tm,hp0⟩ (fun o=>∃g',o=.exit 2 g'∧∃d',LS g'.hp d' (addL L0 (gt c) (fun j=>FloatKind.nearest .f64 (lf c j)) 6)∧nth g'.hp aW=some (.ob 48 false (mapsV ws))∧nth g'.hp aR=some (.ob 25 false (mapsV [.flt 0,.flt 0,.flt 0,.flt 0]))∧nth g'.hp aC=some (.ob 83 false (mapsV (pc 20 c cl)))∧Tr.get p1 g'.tm=some (.one (.loc aW 0))∧Tr.get p2 g'.tm=some (.one (.loc aR 0))∧Tr.get p3 g'.tm=some (.one (.v (.int .i64 hs)))∧Tr.get p4 g'.tm=some (.one (.v (.int .i64 sa)))∧Tr.get p6 g'.tm=some (.one (.v (.int .i64 (.ofNat (c+1)))))∧Tr.get p7 g'.tm=some (.one (.loc aC 0))∧Tr.get p8 g'.tm=some (.one (.v (.int .i64 (.ofNat (6+1)))))∧Tr.get p5 g'.tm=some d');refine wSeq (wSeq (wBlk (ggo (sMv rfl h8) (ggo (sFaL rfl (v1 rfl h7)) (ggo (sLdO (d:=.one (.v (.fz 8 6 (fl c)))) rfl vhit w2 (ldV1 (hq4 c hc)) rfl rfl) (ggo (sLenF rfl vhit) (ggo (sBin (c:=.bool false) rfl (v2 rfl (v1 rfl vhit)) vhit rfl rfl (leF (by omega)) rfl) (gnil (nNorm (wCond (t:=false) vhit (wExit ?_)))))))))));refine nExit ?_;refine⟨_,rfl,_,hLS,w0,w1,w2,?_,?_,?_,?_,?_,?_,?_,?_⟩
  ·exact gQ (v4 rfl (v1 rfl h1))
  ·exact gQ (v4 rfl (v1 rfl h2))
  ·exact gQ (v4 rfl (v1 rfl h3))
  ·exact gQ (v4 rfl (v1 rfl h4))
  ·exact gQ (v4 rfl (v1 rfl h6))
  ·exact gQ (v4 rfl (v1 rfl h7))
  ·exact gQ (v4 rfl (v1 rfl h8))
  ·exact gQ (v4 rfl (v1 rfl h5))
end Go.Proofs.YtiahijhpjloijaaGreat.V

namespace Go.Proofs.YtiahijhpjloijaaGreat.V
open Go
theorem loop11o {ws cl:List U} {fl:Nat→List U} {h a:Nat→Int} {lf:Nat→Nat→Int} {gt:Nat→Nat→Bool} {hs sa:Nat→Int} {aW aR:Nat} {P:Program} {O:Oracle2} {n:Nat} (hw:ws.length=19) (h17:ws[17]?=some (.fz 20 3 cl)) (hcl:cl.length=3*20) (hq4:∀i,i<3→(pc 20 i cl)[4]?=some (.fz 8 6 (fl i))) (hh:∀i,i<3→(pc 20 i cl)[18]?=some (.int .i64 (h i))) (ha:∀i,i<3→(pc 20 i cl)[19]?=some (.int .i64 (a i))) (hL:∀i j,i<3→j<6→∃G,O 26 [.ag (mapsV ws),.one (.v (.int .i64 (.ofNat (i+1)))),.one (.v (.int .i64 (.ofNat (j+1))))] []=some (.one (.v (.int .i64 (lf i j))),G)) (hg:∀i j,i<3→j<6→cbin .gtr (.int .i64 (lf i j)) (.int .i64 (0))=some (.bool (gt i j))) (hsS:∀i,i<3→cbin .add (.int .i64 (hs i)) (.int .i64 (h i))=some (.int .i64 (hs (i+1)))) (saS:∀i,i<3→cbin .add (.int .i64 (sa i)) (.int .i64 (a i))=some (.int .i64 (sa (i+1)))) (hm:6<n) (hn:3<n) {tm:Tr GD} {hp:List GO} {d:GD} (kL:LS hp d (outL gt (fun i j=>FloatKind.nearest .f64 (lf i j)) 0)) (kw0:nth hp aW=some (.ob 48 false (mapsV ws))) (kw1:nth hp aR=some (.ob 25 false (mapsV [.flt 0,.flt 0,.flt 0,.flt 0]))) (kh1:Tr.get p1 tm=some (.one (.loc aW 0))) (kh2:Tr.get p2 tm=some (.one (.loc aR 0))) (kh3:Tr.get p3 tm=some (.one (.v (.int .i64 (hs 0))))) (kh4:Tr.get p4 tm=some (.one (.v (.int .i64 (sa 0))))) (kh11:Tr.get p11 tm=some (.one (.v (.fz 20 3 cl)))) (kh12:Tr.get p12 tm=some (.one (.v (.int .i64 (.ofNat 3))))) (kh13:Tr.get p13 tm=some (.one (.v (.int .i64 (.ofNat 0))))) (kh5:Tr.get p5 tm=some d):
 ∃t,gev P O n (.loop L11o) ⟨tm,hp⟩=.exit 0 t∧∃d',LS t.hp d' (outL gt (fun i j=>FloatKind.nearest .f64 (lf i j)) 3)∧nth t.hp aW=some (.ob 48 false (mapsV ws))∧nth t.hp aR=some (.ob 25 false (mapsV [.flt 0,.flt 0,.flt 0,.flt 0]))∧Tr.get p1 t.tm=some (.one (.loc aW 0))∧Tr.get p2 t.tm=some (.one (.loc aR 0))∧Tr.get p3 t.tm=some (.one (.v (.int .i64 (hs 3))))∧Tr.get p4 t.tm=some (.one (.v (.int .i64 (sa 3))))∧Tr.get p11 t.tm=some (.one (.v (.fz 20 3 cl)))∧Tr.get p12 t.tm=some (.one (.v (.int .i64 (.ofNat 3))))∧Tr.get p13 t.tm=some (.one (.v (.int .i64 (.ofNat 3))))∧Tr.get p5 t.tm=some d':=by
 refine iter_up (f:=gev P O n L11o) (I:=fun i g=>∃d,LS g.hp d (outL gt (fun i j=>FloatKind.nearest .f64 (lf i j)) i)∧nth g.hp aW=some (.ob 48 false (mapsV ws))∧nth g.hp aR=some (.ob 25 false (mapsV [.flt 0,.flt 0,.flt 0,.flt 0]))∧Tr.get p1 g.tm=some (.one (.loc aW 0))∧Tr.get p2 g.tm=some (.one (.loc aR 0))∧Tr.get p3 g.tm=some (.one (.v (.int .i64 (hs i))))∧Tr.get p4 g.tm=some (.one (.v (.int .i64 (sa i))))∧Tr.get p11 g.tm=some (.one (.v (.fz 20 3 cl)))∧Tr.get p12 g.tm=some (.one (.v (.int .i64 (.ofNat 3))))∧Tr.get p13 g.tm=some (.one (.v (.int .i64 (.ofNat i))))∧Tr.get p5 g.tm=some d) (N:=3) (id:=0) (Q:=fun t=>∃d',LS t.hp d' (outL gt (fun i j=>FloatKind.nearest .f64 (lf i j)) 3)∧nth t.hp aW=some (.ob 48 false (mapsV ws))∧nth t.hp aR=some (.ob 25 false (mapsV [.flt 0,.flt 0,.flt 0,.flt 0]))∧Tr.get p1 t.tm=some (.one (.loc aW 0))∧Tr.get p2 t.tm=some (.one (.loc aR 0))∧Tr.get p3 t.tm=some (.one (.v (.int .i64 (hs 3))))∧Tr.get p4 t.tm=some (.one (.v (.int .i64 (sa 3))))∧Tr.get p11 t.tm=some (.one (.v (.fz 20 3 cl)))∧Tr.get p12 t.tm=some (.one (.v (.int .i64 (.ofNat 3))))∧Tr.get p13 t.tm=some (.one (.v (.int .i64 (.ofNat 3))))∧Tr.get p5 t.tm=some d') ?_ ?_ 3 0 ⟨tm,hp⟩ n (by omega) hn ⟨d,kL,kw0,kw1,kh1,kh2,kh3,kh4,kh11,kh12,kh13,kh5⟩
 ·rintro i ⟨tm,hp0⟩ hi ⟨d,hLS,w0,w1,h1,h2,h3,h4,h11,h12,h13,h5⟩
  show Wp P O n L11o ⟨tm,hp0⟩ (fun o=>∃g',o=.norm g'∧∃d',LS g'.hp d' (outL gt (fun i j=>FloatKind.nearest .f64 (lf i j)) (i+1))∧nth g'.hp aW=some (.ob 48 false (mapsV ws))∧nth g'.hp aR=some (.ob 25 false (mapsV [.flt 0,.flt 0,.flt 0,.flt 0]))∧Tr.get p1 g'.tm=some (.one (.loc aW 0))∧Tr.get p2 g'.tm=some (.one (.loc aR 0))∧Tr.get p3 g'.tm=some (.one (.v (.int .i64 (hs (i+1)))))∧Tr.get p4 g'.tm=some (.one (.v (.int .i64 (sa (i+1)))))∧Tr.get p11 g'.tm=some (.one (.v (.fz 20 3 cl)))∧Tr.get p12 g'.tm=some (.one (.v (.int .i64 (.ofNat 3))))∧Tr.get p13 g'.tm=some (.one (.v (.int .i64 (.ofNat (i+1)))))∧Tr.get p5 g'.tm=some d');refine wSeq (wBlk (ggo (sBin (c:=.bool true) rfl h13 h12 rfl rfl (ltT hi) rfl) (gnil (nNorm (wSeq (wCond (t:=true) vhit (wSkip (nNorm (wSeq (wBlock (wSeq ?_)))))))))));refine wBlk (ggo (sMv rfl (v1 rfl h13)) (ggo (sIasF (j:=i) rfl (v2 rfl h11) (v2 rfl h13) hi) (ggo (sLdF rfl vhit (ldPk hcl hi) ldPd) (cAlloc (cs:=mapsV [.int .i64 (0),.int .i64 (0),.int .i64 (0),.int .i64 (0),.nil,.nil,.bool false,.int .i64 (0),.int .i64 (0),.int .i64 (0),.int .i64 (0),.str [],.int .i64 (0),.int .i64 (0),.nil,.int .i64 (0),.int .i64 (0),.int .i64 (0),.int .i64 (0),.int .i64 (0)]) rfl rfl ?_))));intro ax1 hpx2 mx3 wx4;replace w0:=mx3 _ _ w0;replace w1:=mx3 _ _ w1;replace hLS:=hLS.kp mx3;refine ggo (sMv rfl (v2 rfl (v1 rfl vhit))) (cSt (ns:=mapsV (pc 20 i cl)) rfl (v1 rfl vhit) wx4 (gcells_ag (v2 rfl vhit)) (len_mapsV (pc_len hcl hi)) (Nat.le_of_ble_eq_true rfl) (splice_all (by rw[←len_eq,len_mapsV (pc_len hcl hi)];rfl)) ?_);intro hpx5 mx6 wx7;replace w0:=mx6 _ _ _ _ (by decide) w0;replace w1:=mx6 _ _ _ _ (by decide) w1;replace hLS:=hLS.ko mx6 (by decide);refine gnil (nNorm (wSeq (wDblk (ggo (sMv rfl (v4 rfl (v2 rfl h3))) (ggo (sFaL rfl (v2 rfl vhit)) (ggo (sLdO (d:=.one (.v (.int .i64 (h i)))) rfl vhit wx7 (ldV1 (hh i hi)) rfl rfl) (ggo (sBin (c:=.int .i64 (hs (i+1))) rfl (v2 rfl vhit) vhit rfl rfl (hsS i hi) rfl) (ggo (sMv rfl (v8 rfl (v2 rfl h4))) (ggo (sFaL rfl (v4 rfl (v2 rfl vhit))) (ggo (sLdO (d:=.one (.v (.int .i64 (a i)))) rfl vhit wx7 (ldV1 (ha i hi)) rfl rfl) (ggo (sBin (c:=.int .i64 (sa (i+1))) rfl (v2 rfl vhit) vhit rfl rfl (saS i hi) rfl) ?_)))))))))));refine ggo (sMv rfl (v4 rfl vhit)) (ggo (sMv rfl (v1 rfl vhit)) (gnil (nNorm (wSeq (wBlk (ggo (sFaL rfl (v8 rfl (v2 rfl (v1 rfl vhit)))) (ggo (sLdO (d:=.one (.v (.fz 8 6 (fl i)))) rfl vhit wx7 (ldV1 (hq4 i hi)) rfl rfl) (ggo (sLenF rfl vhit) (ggo (sMv rfl rfl) (gnil (nNorm ?_)))))))))));refine wBlock (wEx (loop11i (c:=i) (L0:=outL gt (fun i j=>FloatKind.nearest .f64 (lf i j)) i) hw hq4 hL hg hi (outL_len i) hm hLS w0 w1 (gq (v8 rfl (v8 rfl (v4 rfl h1)))) (gq (v8 rfl (v8 rfl (v4 rfl h2)))) (gq (v4 rfl (v1 rfl vhit))) (gq (v4 rfl vhit)) (gq (v8 rfl (v4 rfl (v2 rfl vhit)))) (gq (v8 rfl (v8 rfl (v4 rfl h11)))) (gq (v8 rfl (v8 rfl (v4 rfl h12)))) (gq (v8 rfl (v8 rfl (v4 rfl h13)))) (gq (v1 rfl vhit)) (gq vhit) (gq (v8 rfl (v8 rfl (v4 rfl h5))))) ?_)
  rintro ⟨tm1,hpl⟩ ⟨d1,hLS,vaW,vaR,f1,f2,f3,f4,f6,f11,f12,f13,f28,f29,f5⟩
  refine bExit (bNorm (nNorm (wBlk (ggo (sBin (c:=.int .i64 (.ofNat (i+1))) rfl f13 rfl rfl rfl (inc64 (by omega)) rfl) (ggo (sMv rfl vhit) (gnil ?_))))));refine⟨_,rfl,_,hLS,vaW,vaR,?_,?_,?_,?_,?_,?_,?_,?_⟩
  ·exact gQ (v2 rfl f1)
  ·exact gQ (v2 rfl f2)
  ·exact gQ (v2 rfl f3)
  ·exact gQ (v2 rfl f4)
  ·exact gQ (v2 rfl f11)
  ·exact gQ (v2 rfl f12)
  ·exact gQ vhit
  ·exact gQ (v2 rfl f5)
 ·rintro ⟨tm,hp0⟩ ⟨d,hLS,w0,w1,h1,h2,h3,h4,h11,h12,h13,h5⟩
  show Wp P O n L11o ⟨tm,hp0⟩ (fun o=>∃g',o=.exit 0 g'∧∃d',LS g'.hp d' (outL gt (fun i j=>FloatKind.nearest .f64 (lf i j)) 3)∧nth g'.hp aW=some (.ob 48 false (mapsV ws))∧nth g'.hp aR=some (.ob 25 false (mapsV [.flt 0,.flt 0,.flt 0,.flt 0]))∧Tr.get p1 g'.tm=some (.one (.loc aW 0))∧Tr.get p2 g'.tm=some (.one (.loc aR 0))∧Tr.get p3 g'.tm=some (.one (.v (.int .i64 (hs 3))))∧Tr.get p4 g'.tm=some (.one (.v (.int .i64 (sa 3))))∧Tr.get p11 g'.tm=some (.one (.v (.fz 20 3 cl)))∧Tr.get p12 g'.tm=some (.one (.v (.int .i64 (.ofNat 3))))∧Tr.get p13 g'.tm=some (.one (.v (.int .i64 (.ofNat 3))))∧Tr.get p5 g'.tm=some d');refine wSeq (wBlk (ggo (sBin (c:=.bool false) rfl h13 h12 rfl rfl (ltF (Nat.le_refl _)) rfl) (gnil (nNorm (wSeq (wCond (t:=false) vhit (wExit (nExit ?_))))))));refine⟨_,rfl,_,hLS,w0,w1,?_,?_,?_,?_,?_,?_,?_,?_⟩
  ·exact gQ (v1 rfl h1)
  ·exact gQ (v1 rfl h2)
  ·exact gQ (v1 rfl h3)
  ·exact gQ (v1 rfl h4)
  ·exact gQ (v1 rfl h11)
  ·exact gQ (v1 rfl h12)
  ·exact gQ (v1 rfl h13)
  ·exact gQ (v1 rfl h5)
theorem of11 {ws cl:List U} {fl:Nat→List U} {h a:Nat→Int} {lf:Nat→Nat→Int} {gt:Nat→Nat→Bool} {hs sa:Nat→Int} {c0 c1 c2 c3:U} {G0 G1 G2 G3:List GO} {tt:Int} {P:Program} {O:Oracle2} {m:Nat} (hw:ws.length=19) (h17:ws[17]?=some (.fz 20 3 cl)) (hcl:cl.length=3*20) (hq4:∀i,i<3→(pc 20 i cl)[4]?=some (.fz 8 6 (fl i))) (hh:∀i,i<3→(pc 20 i cl)[18]?=some (.int .i64 (h i))) (ha:∀i,i<3→(pc 20 i cl)[19]?=some (.int .i64 (a i))) (hL:∀i j,i<3→j<6→∃G,O 26 [.ag (mapsV ws),.one (.v (.int .i64 (.ofNat (i+1)))),.one (.v (.int .i64 (.ofNat (j+1))))] []=some (.one (.v (.int .i64 (lf i j))),G)) (hg:∀i j,i<3→j<6→cbin .gtr (.int .i64 (lf i j)) (.int .i64 (0))=some (.bool (gt i j))) (hsS:∀i,i<3→cbin .add (.int .i64 (hs i)) (.int .i64 (h i))=some (.int .i64 (hs (i+1)))) (saS:∀i,i<3→cbin .add (.int .i64 (sa i)) (.int .i64 (a i))=some (.int .i64 (sa (i+1)))) (hm:6<m) (kc0:glone (.v c0)=some [.v c0]) (kc1:glone (.v c1)=some [.v c1]) (kc2:glone (.v c2)=some [.v c2]) (kc3:glone (.v c3)=some [.v c3]) (hT:cbin .add (.int .i64 (hs 3)) (.int .i64 (sa 3))=some (.int .i64 tt)) (q0:O 27 [.one (.v (.int .i64 (hs 3))),.one (.v (.int .i64 (tt)))] []=some (.one (.v c0),G0)) (q1:O 28 [Ld (outL gt (fun i j=>FloatKind.nearest .f64 (lf i j)) 3)] []=some (.one (.v c1),G1)) (q2:O 29 [Ld (outL gt (fun i j=>FloatKind.nearest .f64 (lf i j)) 3)] []=some (.one (.v c2),G2)) (q3:O 30 [Ld (outL gt (fun i j=>FloatKind.nearest .f64 (lf i j)) 3)] []=some (.one (.v c3),G3)) (hs0:hs 0=0) (sa0:sa 0=0):∃H,gbody P O m false b11 [.ag (mapsV ws)] []=some (.ag (mapsV [c0,c1,c2,c3]),H):=by
 refine wBodyE (tm:=(gput (some p0) (.ag (mapsV ws)) .e)) rfl (wSeq (wBlk (cBox rfl rfl (len_mapsV hw) ?_)));intro ax1 hpx2 mx3 wx4;refine cAlloc (cs:=mapsV [.flt 0,.flt 0,.flt 0,.flt 0]) rfl rfl ?_;intro ax5 hpx6 mx7 wx8;replace wx4:=mx7 _ _ wx4;refine gnil (nNorm (wSeq (wBlk (ggo (sMv rfl rfl) (ggo (sMv rfl rfl) (gnil (nNorm (wSeq (wBlk (ggo (sMv rfl rfl) (gnil ?_)))))))))));refine nNorm (wSeq (wSeq (wBlk (ggo (sFaL rfl rfl) (ggo (sLdO (d:=.one (.v (.fz 20 3 cl))) rfl rfl wx4 (ldV1 h17) rfl rfl) (ggo (sLenF rfl rfl) (ggo (sMv rfl rfl) (gnil (nNorm (wBlock (wEx (loop11o hw h17 hcl hq4 hh ha hL hg hsS saS hm (by omega) (.inl ⟨rfl,rfl⟩) wx4 wx8 rfl rfl (by rw[hs0];rfl) (by rw[sa0];rfl) rfl rfl rfl rfl) ?_)))))))))))
 rintro ⟨tm1,hpl⟩ ⟨d1,hLS,vW,vR,f1,f2,f3,f4,f11,f12,f13,f5⟩
 rcases hLS with⟨hLe,rfl⟩|⟨hLe,aL,rfl,wL⟩
 ·rw[hLe]at q1 q2 q3
  refine bExit (nNorm (wSeq (wBlk (ggo (sMv rfl f3) (ggo (sMv rfl (v1 rfl f3)) (ggo (sMv rfl (v2 rfl f4)) (ggo (sBin (c:=.int .i64 tt) rfl (v1 rfl vhit) vhit rfl rfl hT rfl) (cCall (ds:=[.one (.v (.int .i64 (hs 3))),.one (.v (.int .i64 tt))]) rfl (args2 ((v2 rfl (v1 rfl vhit))) (vhit)) (.one (.one .nil)) (q0) ?_))))))));intro hpx9 mx10;replace vW:=mx10 _ _ vW;replace vR:=mx10 _ _ vR;refine ggo (sFaL rfl (v4 rfl (v1 rfl f2))) (cSt (ns:=mapsV [c0,.flt 0,.flt 0,.flt 0]) rfl vhit vR (gcells_one (v1 rfl vhit) kc0) rfl (Nat.le_of_ble_eq_true rfl) rfl ?_);intro hpx11 mx12 wx13;replace vW:=mx12 _ _ _ _ (by decide) vW;refine gnil (nNorm (wSeq (wBlk (ggo (sMv rfl (v4 rfl (v2 rfl f5))) (cCall (ds:=[.one (.v .nil)]) rfl (args1 (vhit)) (.one .nil) (q1) ?_)))));intro hpx14 mx15;replace vW:=mx15 _ _ vW;replace wx13:=mx15 _ _ wx13;refine ggo (sMv rfl (v8 rfl f5)) (cCall (ds:=[.one (.v .nil)]) rfl (args1 (vhit)) (.one .nil) (q2) ?_);intro hpx16 mx17;replace vW:=mx17 _ _ vW;replace wx13:=mx17 _ _ wx13;refine ggo (sMv rfl (v8 rfl (v2 rfl f5))) (cCall (ds:=[.one (.v .nil)]) rfl (args1 (vhit)) (.one .nil) (q3) ?_);intro hpx18 mx19;replace vW:=mx19 _ _ vW;replace wx13:=mx19 _ _ wx13;refine ggo (sFaL rfl (v8 rfl (v4 rfl f2))) (cSt (ns:=mapsV [c0,c1,.flt 0,.flt 0]) rfl vhit wx13 (gcells_one (v4 rfl (v1 rfl vhit)) kc1) rfl (Nat.le_of_ble_eq_true rfl) rfl ?_);intro hpx20 mx21 wx22;replace vW:=mx21 _ _ _ _ (by decide) vW;refine ggo (sFaL rfl (v8 rfl (v4 rfl (v1 rfl f2)))) (cSt (ns:=mapsV [c0,c1,c2,.flt 0]) rfl vhit wx22 (gcells_one (v4 rfl vhit) kc2) rfl (Nat.le_of_ble_eq_true rfl) rfl ?_);intro hpx23 mx24 wx25;replace vW:=mx24 _ _ _ _ (by decide) vW;refine ggo (sFaL rfl (v8 rfl (v4 rfl (v2 rfl f2)))) (cSt (ns:=mapsV [c0,c1,c2,c3]) rfl vhit wx25 (gcells_one (v2 rfl (v1 rfl vhit)) kc3) rfl (Nat.le_of_ble_eq_true rfl) rfl ?_);intro hpx26 mx27 wx28;replace vW:=mx27 _ _ _ _ (by decide) vW;refine gnil (nNorm (wSeq (wBlk (ggo (sLdO rfl (v8 rfl (v4 rfl (v2 rfl (v1 rfl f2)))) wx28 rfl rfl rfl) (cSt (ns:=mapsV [c0,c1,c2,c3]) rfl (v8 rfl (v8 rfl f2)) wx28 (gcells_ag vhit) rfl (Nat.le_of_ble_eq_true rfl) rfl ?_)))));intro hpx29 mx30 wx31;replace vW:=mx30 _ _ _ _ (by decide) vW;refine gnil (nNorm (wRet ?_));exact⟨_,.inl rfl,_,gends_cell (by(try dsimp only);show gval _ (.t p2)=_;exact(v8 rfl (v8 rfl f2))) wx31 rfl⟩
 ·rw[Ld_ne hLe]at q1 q2 q3
  refine bExit (nNorm (wSeq (wBlk (ggo (sMv rfl f3) (ggo (sMv rfl (v1 rfl f3)) (ggo (sMv rfl (v2 rfl f4)) (ggo (sBin (c:=.int .i64 tt) rfl (v1 rfl vhit) vhit rfl rfl hT rfl) (cCall (ds:=[.one (.v (.int .i64 (hs 3))),.one (.v (.int .i64 tt))]) rfl (args2 ((v2 rfl (v1 rfl vhit))) (vhit)) (.one (.one .nil)) (q0) ?_))))))));intro hpx32 mx33;replace vW:=mx33 _ _ vW;replace vR:=mx33 _ _ vR;replace wL:=mx33 _ _ wL;refine ggo (sFaL rfl (v4 rfl (v1 rfl f2))) (cSt (ns:=mapsV [c0,.flt 0,.flt 0,.flt 0]) rfl vhit vR (gcells_one (v1 rfl vhit) kc0) rfl (Nat.le_of_ble_eq_true rfl) rfl ?_);intro hpx34 mx35 wx36;replace vW:=mx35 _ _ _ _ (by decide) vW;replace wL:=mx35 _ _ _ _ (by decide) wL;refine gnil (nNorm (wSeq (wBlk (ggo (sMv rfl (v4 rfl (v2 rfl f5))) (cCallF rfl vhit wL (by rw[len_eq,List.length_map]) q1 ?_)))));intro hpx37 mx38 wx39;replace vW:=mx38 _ _ _ _ (by decide) vW;replace wx36:=mx38 _ _ _ _ (by decide) wx36;refine ggo (sMv rfl (v8 rfl f5)) (cCallF rfl vhit wx39 (by rw[len_eq,List.length_map]) q2 ?_);intro hpx40 mx41 wx42;replace vW:=mx41 _ _ _ _ (by decide) vW;replace wx36:=mx41 _ _ _ _ (by decide) wx36;refine ggo (sMv rfl (v8 rfl (v2 rfl f5))) (cCallF rfl vhit wx42 (by rw[len_eq,List.length_map]) q3 ?_);intro hpx43 mx44 wx45;replace vW:=mx44 _ _ _ _ (by decide) vW;replace wx36:=mx44 _ _ _ _ (by decide) wx36;refine ggo (sFaL rfl (v8 rfl (v4 rfl f2))) (cSt (ns:=mapsV [c0,c1,.flt 0,.flt 0]) rfl vhit wx36 (gcells_one (v4 rfl (v1 rfl vhit)) kc1) rfl (Nat.le_of_ble_eq_true rfl) rfl ?_);intro hpx46 mx47 wx48;replace vW:=mx47 _ _ _ _ (by decide) vW;replace wx45:=mx47 _ _ _ _ (by decide) wx45;refine ggo (sFaL rfl (v8 rfl (v4 rfl (v1 rfl f2)))) (cSt (ns:=mapsV [c0,c1,c2,.flt 0]) rfl vhit wx48 (gcells_one (v4 rfl vhit) kc2) rfl (Nat.le_of_ble_eq_true rfl) rfl ?_);intro hpx49 mx50 wx51;replace vW:=mx50 _ _ _ _ (by decide) vW;replace wx45:=mx50 _ _ _ _ (by decide) wx45;refine ggo (sFaL rfl (v8 rfl (v4 rfl (v2 rfl f2)))) (cSt (ns:=mapsV [c0,c1,c2,c3]) rfl vhit wx51 (gcells_one (v2 rfl (v1 rfl vhit)) kc3) rfl (Nat.le_of_ble_eq_true rfl) rfl ?_);intro hpx52 mx53 wx54;replace vW:=mx53 _ _ _ _ (by decide) vW;replace wx45:=mx53 _ _ _ _ (by decide) wx45;refine gnil (nNorm (wSeq (wBlk (ggo (sLdO rfl (v8 rfl (v4 rfl (v2 rfl (v1 rfl f2)))) wx54 rfl rfl rfl) (cSt (ns:=mapsV [c0,c1,c2,c3]) rfl (v8 rfl (v8 rfl f2)) wx54 (gcells_ag vhit) rfl (Nat.le_of_ble_eq_true rfl) rfl ?_)))));intro hpx55 mx56 wx57;replace vW:=mx56 _ _ _ _ (by decide) vW;replace wx45:=mx56 _ _ _ _ (by decide) wx45;refine gnil (nNorm (wRet ?_));exact⟨_,.inl rfl,_,gends_cell (by(try dsimp only);show gval _ (.t p2)=_;exact(v8 rfl (v8 rfl f2))) wx57 rfl⟩
theorem loop12o {ws cl:List U} {fl:Nat→List U} {h a:Nat→Int} {lf:Nat→Nat→Int} {gt:Nat→Nat→Bool} {hs al am:Nat→Int} {aW aR:Nat} {P:Program} {O:Oracle2} {n:Nat} (hw:ws.length=19) (h17:ws[17]?=some (.fz 20 3 cl)) (hcl:cl.length=3*20) (hq4:∀i,i<3→(pc 20 i cl)[4]?=some (.fz 8 6 (fl i))) (hh:∀i,i<3→(pc 20 i cl)[18]?=some (.int .i64 (h i))) (ha:∀i,i<3→(pc 20 i cl)[19]?=some (.int .i64 (a i))) (hL:∀i j,i<3→j<6→∃G,O 15 [.ag (mapsV ws),.one (.v (.int .i64 (.ofNat (i+1)))),.one (.v (.int .i64 (.ofNat (j+1))))] []=some (.one (.v (.int .i64 (lf i j))),G)) (hg:∀i j,i<3→j<6→cbin .gtr (.int .i64 (lf i j)) (.int .i64 (0))=some (.bool (gt i j))) (hsS:∀i,i<3→cbin .add (.int .i64 (hs i)) (.int .i64 (h i))=some (.int .i64 (hs (i+1)))) (amS:∀i,i<3→cbin .add (.int .i64 (al i)) (.int .i64 (h i))=some (.int .i64 (am i))) (alS:∀i,i<3→cbin .add (.int .i64 (am i)) (.int .i64 (a i))=some (.int .i64 (al (i+1)))) (hm:6<n) (hn:3<n) {tm:Tr GD} {hp:List GO} {d:GD} (kL:LS hp d (outL gt (fun i j=>FloatKind.nearest .f64 (lf i j)) 0)) (kw0:nth hp aW=some (.ob 48 false (mapsV ws))) (kw1:nth hp aR=some (.ob 25 false (mapsV [.flt 0,.flt 0,.flt 0,.flt 0]))) (kh1:Tr.get p1 tm=some (.one (.loc aW 0))) (kh2:Tr.get p2 tm=some (.one (.loc aR 0))) (kh3:Tr.get p3 tm=some (.one (.v (.int .i64 (hs 0))))) (kh4:Tr.get p4 tm=some (.one (.v (.int .i64 (al 0))))) (kh6:Tr.get p6 tm=some (.one (.v (.int .i64 (.ofNat (0+1)))))) (kh5:Tr.get p5 tm=some d):
 ∃t,gev P O n (.loop L12o) ⟨tm,hp⟩=.exit 0 t∧∃d',LS t.hp d' (outL gt (fun i j=>FloatKind.nearest .f64 (lf i j)) 3)∧nth t.hp aW=some (.ob 48 false (mapsV ws))∧nth t.hp aR=some (.ob 25 false (mapsV [.flt 0,.flt 0,.flt 0,.flt 0]))∧Tr.get p1 t.tm=some (.one (.loc aW 0))∧Tr.get p2 t.tm=some (.one (.loc aR 0))∧Tr.get p3 t.tm=some (.one (.v (.int .i64 (hs 3))))∧Tr.get p4 t.tm=some (.one (.v (.int .i64 (al 3))))∧Tr.get p6 t.tm=some (.one (.v (.int .i64 (.ofNat (3+1)))))∧Tr.get p5 t.tm=some d':=by
 refine iter_up (f:=gev P O n L12o) (I:=fun i g=>∃d,LS g.hp d (outL gt (fun i j=>FloatKind.nearest .f64 (lf i j)) i)∧nth g.hp aW=some (.ob 48 false (mapsV ws))∧nth g.hp aR=some (.ob 25 false (mapsV [.flt 0,.flt 0,.flt 0,.flt 0]))∧Tr.get p1 g.tm=some (.one (.loc aW 0))∧Tr.get p2 g.tm=some (.one (.loc aR 0))∧Tr.get p3 g.tm=some (.one (.v (.int .i64 (hs i))))∧Tr.get p4 g.tm=some (.one (.v (.int .i64 (al i))))∧Tr.get p6 g.tm=some (.one (.v (.int .i64 (.ofNat (i+1)))))∧Tr.get p5 g.tm=some d) (N:=3) (id:=0) (Q:=fun t=>∃d',LS t.hp d' (outL gt (fun i j=>FloatKind.nearest .f64 (lf i j)) 3)∧nth t.hp aW=some (.ob 48 false (mapsV ws))∧nth t.hp aR=some (.ob 25 false (mapsV [.flt 0,.flt 0,.flt 0,.flt 0]))∧Tr.get p1 t.tm=some (.one (.loc aW 0))∧Tr.get p2 t.tm=some (.one (.loc aR 0))∧Tr.get p3 t.tm=some (.one (.v (.int .i64 (hs 3))))∧Tr.get p4 t.tm=some (.one (.v (.int .i64 (al 3))))∧Tr.get p6 t.tm=some (.one (.v (.int .i64 (.ofNat (3+1)))))∧Tr.get p5 t.tm=some d') ?_ ?_ 3 0 ⟨tm,hp⟩ n (by omega) hn ⟨d,kL,kw0,kw1,kh1,kh2,kh3,kh4,kh6,kh5⟩
 ·rintro i ⟨tm,hp0⟩ hi ⟨d,hLS,w0,w1,h1,h2,h3,h4,h6,h5⟩
  show Wp P O n L12o ⟨tm,hp0⟩ (fun o=>∃g',o=.norm g'∧∃d',LS g'.hp d' (outL gt (fun i j=>FloatKind.nearest .f64 (lf i j)) (i+1))∧nth g'.hp aW=some (.ob 48 false (mapsV ws))∧nth g'.hp aR=some (.ob 25 false (mapsV [.flt 0,.flt 0,.flt 0,.flt 0]))∧Tr.get p1 g'.tm=some (.one (.loc aW 0))∧Tr.get p2 g'.tm=some (.one (.loc aR 0))∧Tr.get p3 g'.tm=some (.one (.v (.int .i64 (hs (i+1)))))∧Tr.get p4 g'.tm=some (.one (.v (.int .i64 (al (i+1)))))∧Tr.get p6 g'.tm=some (.one (.v (.int .i64 (.ofNat ((i+1)+1)))))∧Tr.get p5 g'.tm=some d');refine wSeq (wSeq (wBlk (ggo (sMv rfl h6) (ggo (sFaL rfl (v1 rfl h1)) (ggo (sLdO (d:=.one (.v (.fz 20 3 cl))) rfl vhit w0 (ldV1 h17) rfl rfl) (ggo (sLenF rfl vhit) (ggo (sBin (c:=.bool true) rfl (v2 rfl (v1 rfl vhit)) vhit rfl rfl (leT (by omega)) rfl) (gnil (nNorm (wCond (t:=true) vhit (wSkip ?_)))))))))));refine nNorm (wSeq (wBlock (wSeq (wBlk (ggo (sFaL rfl (v4 rfl (v1 rfl h1))) (ggo (sLdO (d:=.one (.v (.fz 20 3 cl))) rfl vhit w0 (ldV1 h17) rfl rfl) (ggo (sMv rfl (v4 rfl (v2 rfl (v1 rfl h6)))) (ggo (sBin (c:=.int .i64 (.ofNat i)) rfl vhit rfl rfl rfl (dec64 (by omega)) rfl) (ggo (sIasF (j:=i) rfl (v2 rfl vhit) vhit hi) (ggo (sLdF rfl vhit (ldPk hcl hi) ldPd) (cAlloc (cs:=mapsV [.int .i64 (0),.int .i64 (0),.int .i64 (0),.int .i64 (0),.nil,.nil,.bool false,.int .i64 (0),.int .i64 (0),.int .i64 (0),.int .i64 (0),.str [],.int .i64 (0),.int .i64 (0),.nil,.int .i64 (0),.int .i64 (0),.int .i64 (0),.int .i64 (0),.int .i64 (0)]) rfl rfl ?_)))))))))));intro ax1 hpx2 mx3 wx4;replace w0:=mx3 _ _ w0;replace w1:=mx3 _ _ w1;replace hLS:=hLS.kp mx3;refine cSt (ns:=mapsV (pc 20 i cl)) rfl vhit wx4 (gcells_ag (v1 rfl vhit)) (len_mapsV (pc_len hcl hi)) (Nat.le_of_ble_eq_true rfl) (splice_all (by rw[←len_eq,len_mapsV (pc_len hcl hi)];rfl)) ?_;intro hpx5 mx6 wx7;replace w0:=mx6 _ _ _ _ (by decide) w0;replace w1:=mx6 _ _ _ _ (by decide) w1;replace hLS:=hLS.ko mx6 (by decide);refine gnil (nNorm (wSeq (wDblk (ggo (sMv rfl (v8 rfl (v4 rfl h3))) (ggo (sFaL rfl (v1 rfl vhit)) (ggo (sLdO (d:=.one (.v (.int .i64 (h i)))) rfl vhit wx7 (ldV1 (hh i hi)) rfl rfl) (ggo (sBin (c:=.int .i64 (hs (i+1))) rfl (v2 rfl vhit) vhit rfl rfl (hsS i hi) rfl) (ggo (sMv rfl (v8 rfl (v8 rfl h4))) (ggo (sFaL rfl (v4 rfl (v1 rfl vhit))) (ggo (sLdO (d:=.one (.v (.int .i64 (h i)))) rfl vhit wx7 (ldV1 (hh i hi)) rfl rfl) (ggo (sBin (c:=.int .i64 (am i)) rfl (v2 rfl vhit) vhit rfl rfl (amS i hi) rfl) ?_)))))))))));refine ggo (sFaL rfl (v8 rfl vhit)) (ggo (sLdO (d:=.one (.v (.int .i64 (a i)))) rfl vhit wx7 (ldV1 (ha i hi)) rfl rfl) (ggo (sBin (c:=.int .i64 (al (i+1))) rfl (v2 rfl vhit) vhit rfl rfl (alS i hi) rfl) (ggo (sMv rfl (v4 rfl (v2 rfl (v1 rfl vhit)))) (ggo (sMv rfl (v1 rfl vhit)) (gnil (nNorm (wSeq (wBlk (ggo (sMv rfl rfl) (gnil (nNorm ?_)))))))))));refine wBlock (wEx (loop12i (c:=i) (L0:=outL gt (fun i j=>FloatKind.nearest .f64 (lf i j)) i) hw hq4 hL hg hi (outL_len i) hm hLS w0 w1 wx7 (gq (v8 rfl (v8 rfl (v8 rfl (v2 rfl h1))))) (gq (v8 rfl (v8 rfl (v8 rfl (v2 rfl h2))))) (gq (v2 rfl vhit)) (gq (v1 rfl vhit)) (gq (v8 rfl (v8 rfl (v8 rfl (v2 rfl h6))))) (gq (v8 rfl (v4 rfl (v2 rfl vhit)))) (gq vhit) (gq (v8 rfl (v8 rfl (v8 rfl (v2 rfl h5)))))) ?_)
  rintro ⟨tm1,hpl⟩ ⟨d1,hLS,vaW,vaR,vaC,f1,f2,f3,f4,f6,f7,f8,f5⟩
  refine bExit (bNorm (nNorm (wBlk (ggo (sMv rfl f6) (ggo (sBin (c:=.int .i64 (.ofNat (i+1+1))) rfl vhit rfl rfl rfl (inc64 (by omega)) rfl) (ggo (sMv rfl vhit) (gnil ?_)))))));refine⟨_,rfl,_,hLS,vaW,vaR,?_,?_,?_,?_,?_,?_⟩
  ·exact gQ (v2 rfl (v1 rfl f1))
  ·exact gQ (v2 rfl (v1 rfl f2))
  ·exact gQ (v2 rfl (v1 rfl f3))
  ·exact gQ (v2 rfl (v1 rfl f4))
  ·exact gQ vhit
  ·exact gQ (v2 rfl (v1 rfl f5))
 ·rintro ⟨tm,hp0⟩ ⟨d,hLS,w0,w1,h1,h2,h3,h4,h6,h5⟩
  show Wp P O n L12o ⟨tm,hp0⟩ (fun o=>∃g',o=.exit 0 g'∧∃d',LS g'.hp d' (outL gt (fun i j=>FloatKind.nearest .f64 (lf i j)) 3)∧nth g'.hp aW=some (.ob 48 false (mapsV ws))∧nth g'.hp aR=some (.ob 25 false (mapsV [.flt 0,.flt 0,.flt 0,.flt 0]))∧Tr.get p1 g'.tm=some (.one (.loc aW 0))∧Tr.get p2 g'.tm=some (.one (.loc aR 0))∧Tr.get p3 g'.tm=some (.one (.v (.int .i64 (hs 3))))∧Tr.get p4 g'.tm=some (.one (.v (.int .i64 (al 3))))∧Tr.get p6 g'.tm=some (.one (.v (.int .i64 (.ofNat (3+1)))))∧Tr.get p5 g'.tm=some d');refine wSeq (wSeq (wBlk (ggo (sMv rfl h6) (ggo (sFaL rfl (v1 rfl h1)) (ggo (sLdO (d:=.one (.v (.fz 20 3 cl))) rfl vhit w0 (ldV1 h17) rfl rfl) (ggo (sLenF rfl vhit) (ggo (sBin (c:=.bool false) rfl (v2 rfl (v1 rfl vhit)) vhit rfl rfl (leF (by omega)) rfl) (gnil (nNorm (wCond (t:=false) vhit (wExit ?_)))))))))));refine nExit ?_;refine⟨_,rfl,_,hLS,w0,w1,?_,?_,?_,?_,?_,?_⟩
  ·exact gQ (v4 rfl (v1 rfl h1))
  ·exact gQ (v4 rfl (v1 rfl h2))
  ·exact gQ (v4 rfl (v1 rfl h3))
  ·exact gQ (v4 rfl (v1 rfl h4))
  ·exact gQ (v4 rfl (v1 rfl h6))
  ·exact gQ (v4 rfl (v1 rfl h5))
theorem of12 {ws cl:List U} {fl:Nat→List U} {h a:Nat→Int} {lf:Nat→Nat→Int} {gt:Nat→Nat→Bool} {hs al am:Nat→Int} {c0 c1 c2 c3:U} {G0 G1 G2 G3:List GO} {P:Program} {O:Oracle2} {m:Nat} (hw:ws.length=19) (h17:ws[17]?=some (.fz 20 3 cl)) (hcl:cl.length=3*20) (hq4:∀i,i<3→(pc 20 i cl)[4]?=some (.fz 8 6 (fl i))) (hh:∀i,i<3→(pc 20 i cl)[18]?=some (.int .i64 (h i))) (ha:∀i,i<3→(pc 20 i cl)[19]?=some (.int .i64 (a i))) (hL:∀i j,i<3→j<6→∃G,O 15 [.ag (mapsV ws),.one (.v (.int .i64 (.ofNat (i+1)))),.one (.v (.int .i64 (.ofNat (j+1))))] []=some (.one (.v (.int .i64 (lf i j))),G)) (hg:∀i j,i<3→j<6→cbin .gtr (.int .i64 (lf i j)) (.int .i64 (0))=some (.bool (gt i j))) (hsS:∀i,i<3→cbin .add (.int .i64 (hs i)) (.int .i64 (h i))=some (.int .i64 (hs (i+1)))) (amS:∀i,i<3→cbin .add (.int .i64 (al i)) (.int .i64 (h i))=some (.int .i64 (am i))) (alS:∀i,i<3→cbin .add (.int .i64 (am i)) (.int .i64 (a i))=some (.int .i64 (al (i+1)))) (hm:6<m) (kc0:glone (.v c0)=some [.v c0]) (kc1:glone (.v c1)=some [.v c1]) (kc2:glone (.v c2)=some [.v c2]) (kc3:glone (.v c3)=some [.v c3]) (q0:O 31 [.one (.v (.int .i64 (hs 3))),.one (.v (.int .i64 (al 3)))] []=some (.one (.v c0),G0)) (q1:O 32 [Ld (outL gt (fun i j=>FloatKind.nearest .f64 (lf i j)) 3)] []=some (.one (.v c1),G1)) (q2:O 33 [Ld (outL gt (fun i j=>FloatKind.nearest .f64 (lf i j)) 3)] []=some (.one (.v c2),G2)) (q3:O 34 [Ld (outL gt (fun i j=>FloatKind.nearest .f64 (lf i j)) 3)] []=some (.one (.v c3),G3)) (hs0:hs 0=0) (al0:al 0=0):∃H,gbody P O m false b12 [.ag (mapsV ws)] []=some (.ag (mapsV [c0,c1,c2,c3]),H):=by
 refine wBodyE (tm:=(gput (some p0) (.ag (mapsV ws)) .e)) rfl (wSeq (wBlk (cBox rfl rfl (len_mapsV hw) ?_)));intro ax1 hpx2 mx3 wx4;refine cAlloc (cs:=mapsV [.flt 0,.flt 0,.flt 0,.flt 0]) rfl rfl ?_;intro ax5 hpx6 mx7 wx8;replace wx4:=mx7 _ _ wx4;refine gnil (nNorm (wSeq (wBlk (ggo (sMv rfl rfl) (ggo (sMv rfl rfl) (gnil (nNorm (wSeq (wBlk (ggo (sMv rfl rfl) (gnil ?_)))))))))));refine nNorm (wSeq (wSeq (wBlk (ggo (sMv rfl rfl) (gnil (nNorm (wBlock (wEx (loop12o hw h17 hcl hq4 hh ha hL hg hsS amS alS hm (by omega) (.inl ⟨rfl,rfl⟩) wx4 wx8 rfl rfl (by rw[hs0];rfl) (by rw[al0];rfl) rfl rfl) ?_))))))))
 rintro ⟨tm1,hpl⟩ ⟨d1,hLS,vW,vR,f1,f2,f3,f4,f6,f5⟩
 rcases hLS with⟨hLe,rfl⟩|⟨hLe,aL,rfl,wL⟩
 ·rw[hLe]at q1 q2 q3
  refine bExit (nNorm (wSeq (wBlk (ggo (sMv rfl f3) (ggo (sMv rfl (v1 rfl f4)) (cCall (ds:=[.one (.v (.int .i64 (hs 3))),.one (.v (.int .i64 (al 3)))]) rfl (args2 ((v1 rfl vhit)) (vhit)) (.one (.one .nil)) (q0) ?_))))));intro hpx9 mx10;replace vW:=mx10 _ _ vW;replace vR:=mx10 _ _ vR;refine ggo (sMv rfl (v2 rfl (v1 rfl f5))) (cCall (ds:=[.one (.v .nil)]) rfl (args1 (vhit)) (.one .nil) (q1) ?_);intro hpx11 mx12;replace vW:=mx12 _ _ vW;replace vR:=mx12 _ _ vR;refine ggo (sMv rfl (v4 rfl (v1 rfl f5))) (cCall (ds:=[.one (.v .nil)]) rfl (args1 (vhit)) (.one .nil) (q2) ?_);intro hpx13 mx14;replace vW:=mx14 _ _ vW;replace vR:=mx14 _ _ vR;refine ggo (sMv rfl (v4 rfl (v2 rfl (v1 rfl f5)))) (cCall (ds:=[.one (.v .nil)]) rfl (args1 (vhit)) (.one .nil) (q3) ?_);intro hpx15 mx16;replace vW:=mx16 _ _ vW;replace vR:=mx16 _ _ vR;refine ggo (sBld (cs:=mapsV [c0,c1,c2,c3]) rfl rfl (gfill4 (v4 rfl (v2 rfl vhit)) (v4 rfl vhit) (v2 rfl vhit) vhit kc0 kc1 kc2 kc3)) (cSt (ns:=mapsV [c0,c1,c2,c3]) rfl (v8 rfl (v2 rfl f2)) vR (gcells_ag vhit) rfl (Nat.le_of_ble_eq_true rfl) rfl ?_);intro hpx17 mx18 wx19;replace vW:=mx18 _ _ _ _ (by decide) vW;refine gnil (nNorm (wRet ?_));exact⟨_,.inl rfl,_,gends_cell (by(try dsimp only);show gval _ (.t p2)=_;exact(v8 rfl (v2 rfl f2))) wx19 rfl⟩
 ·rw[Ld_ne hLe]at q1 q2 q3
  refine bExit (nNorm (wSeq (wBlk (ggo (sMv rfl f3) (ggo (sMv rfl (v1 rfl f4)) (cCall (ds:=[.one (.v (.int .i64 (hs 3))),.one (.v (.int .i64 (al 3)))]) rfl (args2 ((v1 rfl vhit)) (vhit)) (.one (.one .nil)) (q0) ?_))))));intro hpx20 mx21;replace vW:=mx21 _ _ vW;replace vR:=mx21 _ _ vR;replace wL:=mx21 _ _ wL;refine ggo (sMv rfl (v2 rfl (v1 rfl f5))) (cCallF rfl vhit wL (by rw[len_eq,List.length_map]) q1 ?_);intro hpx22 mx23 wx24;replace vW:=mx23 _ _ _ _ (by decide) vW;replace vR:=mx23 _ _ _ _ (by decide) vR;refine ggo (sMv rfl (v4 rfl (v1 rfl f5))) (cCallF rfl vhit wx24 (by rw[len_eq,List.length_map]) q2 ?_);intro hpx25 mx26 wx27;replace vW:=mx26 _ _ _ _ (by decide) vW;replace vR:=mx26 _ _ _ _ (by decide) vR;refine ggo (sMv rfl (v4 rfl (v2 rfl (v1 rfl f5)))) (cCallF rfl vhit wx27 (by rw[len_eq,List.length_map]) q3 ?_);intro hpx28 mx29 wx30;replace vW:=mx29 _ _ _ _ (by decide) vW;replace vR:=mx29 _ _ _ _ (by decide) vR;refine ggo (sBld (cs:=mapsV [c0,c1,c2,c3]) rfl rfl (gfill4 (v4 rfl (v2 rfl vhit)) (v4 rfl vhit) (v2 rfl vhit) vhit kc0 kc1 kc2 kc3)) (cSt (ns:=mapsV [c0,c1,c2,c3]) rfl (v8 rfl (v2 rfl f2)) vR (gcells_ag vhit) rfl (Nat.le_of_ble_eq_true rfl) rfl ?_);intro hpx31 mx32 wx33;replace vW:=mx32 _ _ _ _ (by decide) vW;replace wx30:=mx32 _ _ _ _ (by decide) wx30;refine gnil (nNorm (wRet ?_));exact⟨_,.inl rfl,_,gends_cell (by(try dsimp only);show gval _ (.t p2)=_;exact(v8 rfl (v2 rfl f2))) wx33 rfl⟩
end Go.Proofs.YtiahijhpjloijaaGreat.V

namespace Go.Proofs.YtiahijhpjloijaaGreat.V
open Go
open Fl (isN rung)
theorem gdd_f {f:Nat} {b:Fn} (h:F1 f=some b) (hk:kps f=false) (n:Nat) (ds:List GD) (hp:List GO):GDD (n+1) f ds hp=gbody Tryz.prog (GDD n) FUEL false b ds hp:=by
 have h0:GDD (n+1) f ds hp=(match F1 f with|some b=>gbody Tryz.prog (GDD n) FUEL (kps f) b ds hp|none=>GX1 (GDD n) f ds hp):=rfl;rw[h0,h,hk]
theorem gdd_20 (n b:Nat) (hp:List GO):GDD (n+1) 20 [.one (.v (.int .u64 (.ofNat b)))] hp=some (.one (.v (.flt b)),hp):=rfl
theorem gdd_89 (n b:Nat) (hp:List GO):GDD (n+1) 89 [.one (.v (.flt b))] hp=some (.one (.v (.int .u64 (.ofNat b))),hp):=rfl
theorem gdd_52n (n:Nat) (hp:List GO):GDD (n+1) 52 [.one (.v .nan)] hp=some (.one (.v (.int .u64 18446744073709551615)),hp):=rfl
theorem gdd_52f (n a:Nat) (hp:List GO):GDD (n+1) 52 [.one (.v (.flt a))] hp=gbody Tryz.prog (GDD n) 100000 false b52 [.one (.v (.flt a))] hp:=rfl
def kk (a:Nat):Nat:=if isN a then 18446744073709551615 else if 9223372036854775808≤a then 18446744073709551615-a else a+9223372036854775808
theorem ilt_nat (a b:Nat):ilt (.ofNat a) (.ofNat b)=decide (a<b):=by
 show Nat.ble (Nat.succ a) b=_;rw[Bool.eq_iff_iff,ble_iff,decide_eq_true_iff];exact Iff.rfl
theorem ile_nat (a b:Nat):ile (.ofNat a) (.ofNat b)=decide (a≤b):=by
 show Nat.ble a b=_;rw[Bool.eq_iff_iff,ble_iff,decide_eq_true_iff]
theorem mask52 {a:Nat} (ha:a<18446744073709551616):cbin .and (.int .u64 (.ofNat a)) (.int .u64 9223372036854775807)=some (.int .u64 (.ofNat (rung a))):=by
 show some (C.int .u64 (IntKind.u64.wrap (BitVec.ofInt IntKind.u64.bits (.ofNat a)&&&BitVec.ofInt IntKind.u64.bits 9223372036854775807).toNat))=_;have h:IntKind.u64.wrap (BitVec.ofInt IntKind.u64.bits (.ofNat a)&&&BitVec.ofInt IntKind.u64.bits 9223372036854775807).toNat=(rung a:Int):=V2.and_mask ha;rw[h];rfl
theorem neg52 {a:Nat} (ha:a<18446744073709551616):IntKind.u64.wrap (BitVec.ofInt IntKind.u64.bits (if IntKind.u64.signed then -1 else IntKind.u64.max)^^^BitVec.ofInt IntKind.u64.bits (.ofNat a)).toNat=.ofNat (18446744073709551615-a):=by
 have h1:(BitVec.ofInt IntKind.u64.bits (if IntKind.u64.signed then -1 else IntKind.u64.max))=BitVec.allOnes 64:=by
  show BitVec.ofInt 64 18446744073709551615=BitVec.allOnes 64;decide
 have h2:BitVec.ofInt IntKind.u64.bits (.ofNat a)=BitVec.ofNat 64 a:=rfl;have h3:(BitVec.allOnes 64^^^BitVec.ofNat 64 a).toNat=18446744073709551615-a:=by
  rw[BitVec.allOnes_xor,BitVec.toNat_not,BitVec.toNat_ofNat,Nat.mod_eq_of_lt ha]
 rw[h1,h2];show IntKind.u64.wrap ((BitVec.allOnes 64^^^BitVec.ofNat 64 a).toNat)=_;rw[h3];show(((18446744073709551615-a:Nat):Int)%18446744073709551616)=_;have:(((18446744073709551615-a:Nat):Int)%18446744073709551616)=((18446744073709551615-a:Nat):Int):=by omega
 exact this
theorem wrapU64 {m:Nat} (h:m≤18446744073709551615):wrapC .u64 (.ofNat m)=.ofNat m:=by
 have h:Nat.ble m 18446744073709551615=true:=Nat.ble_eq_true_of_le h;show(Bool.rec _ (Int.ofNat m) (Nat.ble m 18446744073709551615):Int)=_;rw[h]
theorem k52 {a:Nat} (ha:a<18446744073709551616) (n:Nat) (hp:List GO):GDD (n+2) 52 [.one (.v (.flt a))] hp=some (.one (.v (.int .u64 (.ofNat (kk a)))),hp):=by
 refine(gdd_52f (n+1) a hp).trans ?_;have hz:=mask52 ha;have h1:cbin .gtr (.int .u64 (.ofNat (rung a))) (.int .u64 (9218868437227405312))=some (.bool (isN a)):=by
  show some (C.bool (ilt (.ofNat 9218868437227405312) (.ofNat (rung a))))=_;rw[ilt_nat];rfl
 have h2:cbin .geq (.int .u64 (.ofNat a)) (.int .u64 (9223372036854775808))=some (.bool (decide (9223372036854775808≤a))):=by
  show some (C.bool (ile (.ofNat 9223372036854775808) (.ofNat a)))=_;rw[ile_nat]
 unfold kk
 cases hN:isN a
 ·rw[hN]at h1
  by_cases hs:9223372036854775808≤a
  ·rw[decide_eq_true hs]at h2
   rw[key52_1 (gdd_89 n a []) hz h1 h2,neg52 ha];simp[hs]
  ·rw[decide_eq_false hs]at h2
   rw[key52_2 (gdd_89 n a []) hz h1 h2];have:wrapC .u64 (Int.add (.ofNat a) 9223372036854775808)=.ofNat (a+9223372036854775808):=by
    have e:Int.add (.ofNat a) 9223372036854775808=.ofNat (a+9223372036854775808):=(Int.natCast_add a 9223372036854775808).symm;rw[e];exact wrapU64 (by omega)
   rw[this];simp[hs]
 ·rw[hN]at h1
  rw[key52_0 (gdd_89 n a []) hz h1];simp
inductive Flo:U→Nat→Prop where
 |f (a:Nat) (h:a<18446744073709551616):Flo (.flt a) (kk a)
 |n:Flo .nan 18446744073709551615
theorem k52u {u:U} {k:Nat} (h:Flo u k) (n:Nat) (hp:List GO):GDD (n+2) 52 [.one (.v u)] hp=some (.one (.v (.int .u64 (.ofNat k))),hp):=by
 cases h with
 |f a h=>exact k52 h n hp
 |n=>exact gdd_52n (n+1) hp
theorem o22 {u v:U} {j k:Nat} (hu:Flo u j) (hv:Flo v k) (n:Nat):∃r,GDD (n+3) 22 [.one (.v u),.one (.v v)] []=some (.one (.v (.int .i64 r)),[])∧cbin .neq (.int .i64 r) (.int .i64 (0))=some (.bool (!decide (j=k))):=by
 have h1:=k52u hu n [];have h2:=k52u hv n [];have hl:cbin .lss (.int .u64 (.ofNat j)) (.int .u64 (.ofNat k))=some (.bool (decide (j<k))):=by
  show some (C.bool (ilt (.ofNat j) (.ofNat k)))=_;rw[ilt_nat]
 have hg:cbin .gtr (.int .u64 (.ofNat j)) (.int .u64 (.ofNat k))=some (.bool (decide (k<j))):=by
  show some (C.bool (ilt (.ofNat k) (.ofNat j)))=_;rw[ilt_nat]
 rw[gdd_f (f:=22) (b:=b22) rfl rfl];rcases Nat.lt_trichotomy j k with h|h|h
 ·rw[decide_eq_true h]at hl
  exact⟨-1,ord22_lt h1 h2 hl,by rw[decide_eq_false (by omega)];rfl⟩
 ·rw[decide_eq_false (by omega)]at hl hg
  exact⟨0,ord22_eq h1 h2 hl hg,by rw[decide_eq_true h];rfl⟩
 ·rw[decide_eq_false (by omega)]at hl
  rw[decide_eq_true h]at hg;exact⟨1,ord22_gt h1 h2 hl hg,by rw[decide_eq_false (by omega)];rfl⟩
theorem fcmp_of (op:BinOp) (a b:Nat) (h1:op≠.add) (h2:op≠.quo):cbin op (.flt a) (.flt b)=fcmp op (Fl.D.order a b):=by
 cases op<;>first|rfl|exact absurd rfl h1|exact absurd rfl h2
theorem n61 (a n:Nat):GDD (n+1) 61 [.one (.v (.flt a))] []=some (.one (.v (.bool (isN a))),[]):=by
 rw[gdd_f (f:=61) (b:=b61) rfl rfl];refine none61_flt ?_;rw[fcmp_of _ _ _ (by decide) (by decide)];show some (C.bool (Fl.noneB a))=_;rw[Fl.noneB_eq]
theorem s62 {a:Nat} (ha:a<18446744073709551616) (n:Nat):GDD (n+2) 62 [.one (.v (.flt a))] []=some (.one (.v (.bool (Fl.sgn a))),[]):=by
 rw[gdd_f (f:=62) (b:=b62) rfl rfl];refine sign62 (gdd_89 n a []) ?_;have hs:Fl.sgn a=decide (9223372036854775808≤a):=by
  unfold Fl.sgn
  by_cases h:9223372036854775808≤a
  ·have:a/9223372036854775808=1:=by omega
   rw[this,decide_eq_true h];rfl
  ·have:a/9223372036854775808=0:=by omega
   rw[this,decide_eq_false h];rfl
 rw[hs]
 by_cases h:9223372036854775808≤a
 ·have h1:wrapC .i64 (.ofNat a)=(a:Int)-18446744073709551616:=by
   show(Bool.rec (IntKind.i64.wrap (.ofNat a)) (Int.ofNat a) (Nat.ble a 9223372036854775807):Int)=_;have h2:Nat.ble a 9223372036854775807=false:=by
    cases hb:Nat.ble a 9223372036854775807 with
    |false=>rfl
    |true=>rw[ble_iff]at hb;omega
   rw[h2];show IntKind.i64.wrap (a:Int)=_;show(if(true&&decide ((a:Int)%18446744073709551616≥9223372036854775808))=true then(a:Int)%18446744073709551616-18446744073709551616 else(a:Int)%18446744073709551616)=_;rw[if_pos (by simp;omega)];omega
  rw[h1,decide_eq_true h];obtain⟨m,hm⟩:∃m,(a:Int)-18446744073709551616=.negSucc m:=⟨18446744073709551615-a,by omega⟩;rw[hm];rfl
 ·rw[wrap64' (by omega),decide_eq_false h]
  show some (C.bool (ilt (.ofNat a) (.ofNat 0)))=_;rw[ilt_nat];simp
end Go.Proofs.YtiahijhpjloijaaGreat.V

namespace Go.Proofs.YtiahijhpjloijaaGreat.V
open Go
open Fl (isN rung)
theorem key_kk {a:Nat} (ha:a<18446744073709551616):(isN a=true∧kk a=18446744073709551615∧Fl.key a=9223372036854775808)∨(isN a=false∧(kk a:Int)=Fl.key a+9223372036854775808∧kk a<18446744073709551615):=by
 unfold kk Fl.key
 cases hN:isN a
 ·right
  have hr:rung a≤9218868437227405312:=by
   have h:=hN;unfold isN at h;have h:=of_decide_eq_false h;have e:Fl.INF=9218868437227405312:=rfl;omega
  have hrd:rung a=a%9223372036854775808:=rfl;have hs:Fl.sgn a=decide (9223372036854775808≤a):=by
   unfold Fl.sgn
   by_cases h:9223372036854775808≤a
   ·have:a/9223372036854775808=1:=by omega
    rw[this,decide_eq_true h];rfl
   ·have:a/9223372036854775808=0:=by omega
    rw[this,decide_eq_false h];rfl
  rw[hs]
  by_cases h:9223372036854775808≤a
  ·simp only[Bool.false_eq_true,if_false,h,decide_true,if_true,true_and];omega
  ·simp only[Bool.false_eq_true,if_false,h,decide_false,true_and];omega
 ·left;simp
theorem key_kk_eq {a b:Nat} (ha:a<18446744073709551616) (hb:b<18446744073709551616):Fl.key a=Fl.key b↔kk a=kk b:=by
 rcases key_kk ha with⟨h1,h2,h3⟩|⟨h1,h2,h3⟩<;>rcases key_kk hb with⟨k1,k2,k3⟩|⟨k1,k2,k3⟩<;>omega
theorem ord_kk {a b:Nat} (ha:a<18446744073709551616) (hb:b<18446744073709551616):Fl.ord a b=0↔kk a=kk b:=by
 rw[←key_kk_eq ha hb];unfold Fl.ord
 split
 ·omega
 ·split<;>omega
theorem o36v {a b:Nat} (ha:a<18446744073709551616) (hb:b<18446744073709551616) (n:Nat):GDD (n+3) 36 [.one (.v (.flt a)),.one (.v (.flt b))] []=some (.one (.v (.int .i64 (Fl.ord a b))),[]):=by
 rw[gdd_f (f:=36) (b:=b36) rfl rfl];have na:=n61 a (n+1);have nb:=n61 b (n+1);have sa:=s62 ha n;have sb:=s62 hb n;have hg:cbin .gtr (.flt a) (.flt b)=some (.bool (Fl.D.order a b==some .gt)):=by rw[fcmp_of _ _ _ (by decide) (by decide)];rfl
 have hl:cbin .lss (.flt a) (.flt b)=some (.bool (Fl.D.order a b==some .lt)):=by rw[fcmp_of _ _ _ (by decide) (by decide)];rfl
 rw[Fl.ord_go,Fl.noneB_eq,Fl.noneB_eq]
 cases hna:isN a<;>rw[hna]at na
 ·cases hnb:isN b<;>rw[hnb]at nb
  ·cases og:(Fl.D.order a b==some .gt)<;>rw[og]at hg
   ·cases ol:(Fl.D.order a b==some .lt)<;>rw[ol]at hl
    ·cases hsa:Fl.sgn a<;>rw[hsa]at sa<;>cases hsb:Fl.sgn b<;>rw[hsb]at sb
     ·exact ord_s00 na nb hg hl sa sb
     ·exact ord_s01 na nb hg hl sa sb
     ·exact ord_s10 na nb hg hl sa sb
     ·exact ord_s11 na nb hg hl sa sb
    ·exact ord_lt na nb hg hl
   ·exact ord_gt na nb hg
  ·have og:(Fl.D.order a b==some .gt)=false:=by rw[Fl.order_nan_r a b hnb];rfl
   rw[og]at hg⊢;exact ord_ft na nb hg
 ·cases hnb:isN b<;>rw[hnb]at nb
  ·exact ord_tf na nb
  ·exact ord_tt na nb
theorem o36 {a b:Nat} (ha:a<18446744073709551616) (hb:b<18446744073709551616) (n:Nat):∃r,GDD (n+3) 36 [.one (.v (.flt a)),.one (.v (.flt b))] []=some (.one (.v (.int .i64 r)),[])∧cbin .eql (.int .i64 r) (.int .i64 (0))=some (.bool (decide (kk a=kk b))):=by
 refine⟨_,o36v ha hb n,?_⟩;have h:=ord_kk ha hb;have h0:Fl.ord a b= -1∨Fl.ord a b=0∨Fl.ord a b=1:=by
  unfold Fl.ord
  split
  ·exact .inl rfl
  ·split
   ·exact .inr (.inr rfl)
   ·exact .inr (.inl rfl)
 rcases h0 with h0|h0|h0
 ·rw[h0,decide_eq_false (fun e=>by rw[←h,h0]at e;cases e)];rfl
 ·rw[h0,decide_eq_true (h.1 h0)];rfl
 ·rw[h0,decide_eq_false (fun e=>by rw[←h,h0]at e;cases e)];rfl
theorem o36n (n:Nat):∃r,GDD (n+3) 36 [.one (.v .nan),.one (.v .nan)] []=some (.one (.v (.int .i64 r)),[])∧cbin .eql (.int .i64 r) (.int .i64 (0))=some (.bool true):=by
 refine⟨0,?_,rfl⟩;rw[gdd_f (f:=36) (b:=b36) rfl rfl];have h:GDD (n+2) 61 [.one (.v .nan)] []=some (.one (.v (.bool true)),[]):=by
  rw[gdd_f (f:=61) (b:=b61) rfl rfl];exact none61_nan rfl
 exact ord_nn (a:=0) (b:=0) h h
theorem o36s {u:U} {k:Nat} (h:Flo u k) (n:Nat):∃r,GDD (n+3) 36 [.one (.v u),.one (.v u)] []=some (.one (.v (.int .i64 r)),[])∧cbin .eql (.int .i64 r) (.int .i64 (0))=some (.bool true):=by
 cases h with
 |f a h=>
  obtain⟨r,h1,h2⟩:=o36 h h n;exact⟨r,h1,by rw[h2,decide_eq_true rfl]⟩
 |n=>exact o36n n
theorem flo_lone {u:U} {k:Nat} (h:Flo u k):glone (.v u)=some [.v u]:=by cases h<;>rfl
def sm (a0 a1 a2 a3 b0 b1 b2 b3:Nat):Bool:=decide (a0=b0)&&decide (a1=b1)&&decide (a2=b2)&&decide (a3=b3)
theorem same13_ok {a0 a1 a2 a3 b0 b1 b2 b3:U} {i0 i1 i2 i3 j0 j1 j2 j3:Nat} (ha0:Flo a0 i0) (ha1:Flo a1 i1) (ha2:Flo a2 i2) (ha3:Flo a3 i3) (hb0:Flo b0 j0) (hb1:Flo b1 j1) (hb2:Flo b2 j2) (hb3:Flo b3 j3) (n:Nat):
 ∃H,GDD (n+5) 13 [.ag (mapsV [a0,a1,a2,a3]),.ag (mapsV [b0,b1,b2,b3])] []=some (.one (.v (.bool (sm i0 i1 i2 i3 j0 j1 j2 j3))),H):=by
 obtain⟨r0,p0,q0⟩:=o22 ha0 hb0 n;obtain⟨r1,p1,q1⟩:=o22 ha1 hb1 n;obtain⟨r2,p2,q2⟩:=o22 ha2 hb2 n;obtain⟨r3,p3,q3⟩:=o22 ha3 hb3 n;have h35:∃H,GDD (n+4) 35 [.one (.v (.fz 1 4 [a0,a1,a2,a3])),.one (.v (.fz 1 4 [b0,b1,b2,b3]))] []=some (.one (.v (.bool (sm i0 i1 i2 i3 j0 j1 j2 j3))),H):=by
  rw[gdd_f (f:=35) (b:=b35) rfl rfl];unfold sm
  cases h0:decide (i0=j0)<;>rw[h0]at q0
  ·exact same35_0 (r1:=0) (r2:=0) (r3:=0) (G1:=[]) (G2:=[]) (G3:=[]) (by decide) p0 q0
  ·cases h1:decide (i1=j1)<;>rw[h1]at q1
   ·exact same35_1 (r2:=0) (r3:=0) (G2:=[]) (G3:=[]) (by decide) p0 p1 q0 q1
   ·cases h2:decide (i2=j2)<;>rw[h2]at q2
    ·exact same35_2 (r3:=0) (G3:=[]) (by decide) p0 p1 p2 q0 q1 q2
    ·cases h3:decide (i3=j3)<;>rw[h3]at q3
     ·exact same35_3 (by decide) p0 p1 p2 p3 q0 q1 q2 q3
     ·exact same35_4 (by decide) p0 p1 p2 p3 q0 q1 q2 q3
 obtain⟨H,h35⟩:=h35;rw[gdd_f (f:=13) (b:=b13) rfl rfl];exact same13 (flo_lone ha0) (flo_lone ha1) (flo_lone ha2) (flo_lone ha3) (flo_lone hb0) (flo_lone hb1) (flo_lone hb2) (flo_lone hb3) h35
theorem same14_ok {a0 a1 a2 a3 b0 b1 b2 b3:Nat} (ha0:a0<18446744073709551616) (ha1:a1<18446744073709551616) (ha2:a2<18446744073709551616) (ha3:a3<18446744073709551616) (hb0:b0<18446744073709551616) (hb1:b1<18446744073709551616) (hb2:b2<18446744073709551616) (hb3:b3<18446744073709551616) (n:Nat):
 ∃H,GDD (n+4) 14 [.ag (mapsV [.flt a0,.flt a1,.flt a2,.flt a3]),.ag (mapsV [.flt b0,.flt b1,.flt b2,.flt b3])] []=some (.one (.v (.bool (sm (kk a0) (kk a1) (kk a2) (kk a3) (kk b0) (kk b1) (kk b2) (kk b3)))),H):=by
 obtain⟨r0,p0,q0⟩:=o36 ha0 hb0 n;obtain⟨r1,p1,q1⟩:=o36 ha1 hb1 n;obtain⟨r2,p2,q2⟩:=o36 ha2 hb2 n;obtain⟨r3,p3,q3⟩:=o36 ha3 hb3 n;rw[gdd_f (f:=14) (b:=b14) rfl rfl];unfold sm
 cases h0:decide (kk a0=kk b0)<;>rw[h0]at q0
 ·exact same14_0 (r1:=0) (r2:=0) (r3:=0) (G1:=[]) (G2:=[]) (G3:=[]) p0 q0
 ·cases h1:decide (kk a1=kk b1)<;>rw[h1]at q1
  ·exact same14_1 (r2:=0) (r3:=0) (G2:=[]) (G3:=[]) p0 p1 q0 q1
  ·cases h2:decide (kk a2=kk b2)<;>rw[h2]at q2
   ·exact same14_2 (r3:=0) (G3:=[]) p0 p1 p2 q0 q1 q2
   ·cases h3:decide (kk a3=kk b3)<;>rw[h3]at q3
    ·exact same14_3 p0 p1 p2 p3 q0 q1 q2 q3
    ·exact same14_4 p0 p1 p2 p3 q0 q1 q2 q3
theorem same14_self {a0 a1 a2 a3:U} {i0 i1 i2 i3:Nat} (ha0:Flo a0 i0) (ha1:Flo a1 i1) (ha2:Flo a2 i2) (ha3:Flo a3 i3) (n:Nat):
 ∃H,GDD (n+4) 14 [.ag (mapsV [a0,a1,a2,a3]),.ag (mapsV [a0,a1,a2,a3])] []=some (.one (.v (.bool true)),H):=by
 obtain⟨r0,p0,q0⟩:=o36s ha0 n;obtain⟨r1,p1,q1⟩:=o36s ha1 n;obtain⟨r2,p2,q2⟩:=o36s ha2 n;obtain⟨r3,p3,q3⟩:=o36s ha3 n;rw[gdd_f (f:=14) (b:=b14) rfl rfl];exact same14_4 p0 p1 p2 p3 q0 q1 q2 q3
theorem sm_self (a b c d:Nat):sm a b c d a b c d=true:=by unfold sm;simp
end Go.Proofs.YtiahijhpjloijaaGreat.V

namespace Go.Proofs.YtiahijhpjloijaaGreat.V
open Go
open Fl (isN rung)
noncomputable def fl (n:Nat):Nat:=FloatKind.nearest .f64 (.ofNat n)
noncomputable def allN (p:Nat→Bool) (n:Nat):Bool:=Nat.rec true (fun k ih=>Bool.rec false ih (p k)) n
theorem allN_spec {p:Nat→Bool}:∀{n:Nat},allN p n=true→∀k,k<n→p k=true
 |0,_,k,h=>absurd h (Nat.not_lt_zero _)
 |n+1,h,k,hk=>by
  have h:(Bool.rec false (allN p n) (p n):Bool)=true:=h;rw[brec']at h
  split at h
  ·rename_i h1
   rcases Nat.lt_succ_iff_lt_or_eq.1 hk with h2|rfl
   ·exact allN_spec h k h2
   ·exact h1
  ·cases h
noncomputable def okS (n:Nat):Bool:=Nat.ble (Nat.succ (fl n)) (fl (n+1))
theorem okS_all:allN okS 1000=true:=by kernel_rfl
theorem fl_top:Nat.ble (fl 1000) 9218868437227405311=true:=by kernel_rfl
theorem fl_lt {a:Nat}:∀{b:Nat},a<b→b≤1000→fl a<fl b
 |0,h,_=>absurd h (Nat.not_lt_zero _)
 |b+1,h,hb=>by
  have h1:fl b<fl (b+1):=Nat.le_of_ble_eq_true (allN_spec okS_all b (by omega));rcases Nat.lt_succ_iff_lt_or_eq.1 h with h2|rfl
  ·exact Nat.lt_trans (fl_lt h2 (by omega)) h1
  ·exact h1
theorem fl_fin {a:Nat} (h:a≤1000):fl a<9218868437227405312:=by
 have h1:fl 1000≤9218868437227405311:=Nat.le_of_ble_eq_true fl_top;rcases Nat.lt_or_eq_of_le h with h2|rfl
 ·have:=fl_lt h2 (Nat.le_refl _);omega
 ·omega
theorem fl_N {a:Nat} (h:a≤1000):isN (fl a)=false:=by
 have:=fl_fin h;unfold isN rung;have e:Fl.INF=9218868437227405312:=rfl;rw[e];exact decide_eq_false (by omega)
theorem fl_kk {a:Nat} (h:a≤1000):kk (fl a)=fl a+9223372036854775808:=by
 have:=fl_fin h;unfold kk;rw[fl_N h,if_neg (by decide),if_neg (by omega)]
theorem fl_flo {a:Nat} (h:a≤1000):Flo (.flt (fl a)) (kk (fl a)):=.f _ (by have:=fl_fin h;omega)
theorem fl_key {a:Nat} (h:a≤1000):Fl.key (fl a)=fl a:=by
 have h1:=fl_fin h;have h2:=fl_kk h;rcases key_kk (a:=fl a) (by omega)with⟨h3,_,_⟩|⟨_,h4,_⟩
 ·rw[fl_N h]at h3;cases h3
 ·omega
theorem fl_ord {a b:Nat} (ha:a≤1000) (hb:b≤1000):Fl.ord (fl a) (fl b)=if a<b then -1 else if b<a then 1 else 0:=by
 unfold Fl.ord;rw[fl_key ha,fl_key hb];rcases Nat.lt_trichotomy a b with h|h|h
 ·have:=fl_lt h hb
  rw[if_pos (by omega),if_pos h]
 ·subst h;simp
 ·have:=fl_lt h ha
  rw[if_neg (by omega),if_pos (by omega),if_neg (by omega),if_pos h]
noncomputable def okR (n:Nat):Bool:=match Fl.D.read (fl n)with
 | .number false m (.negSucc p)=>Nat.beq m (n<<<(p+1))&&Nat.ble p 1073
 | .number false m (.ofNat p)=>Nat.beq m n&&Nat.beq p 0
 |_=>false
theorem okR_all:allN okR 1000=true:=by kernel_rfl
theorem fl_read {n:Nat} (h:n<1000):∃k:Nat,k≤1074∧Fl.D.read (fl n)=.number false (n<<<k) (-(k:Int)):=by
 have h1:=allN_spec okR_all n h;unfold okR at h1
 split at h1
 ·rename_i m p hr
  simp only[Bool.and_eq_true]at h1;obtain⟨h2,h3⟩:=h1;rw[beq_iff]at h2;rw[ble_iff]at h3;exact⟨p+1,by omega,by rw[hr,h2];rfl⟩
 ·rename_i m p hr
  simp only[Bool.and_eq_true]at h1;obtain⟨h2,h3⟩:=h1;rw[beq_iff]at h2 h3;subst h2 h3;exact⟨0,by omega,by rw[hr];rfl⟩
 ·cases h1
theorem near_shift {n K:Nat} (h0:n≠0) (hl:n.log2≤52) (hK:K≤1074):Fl.D.nearest false (n<<<K) (-(K:Int))=Fl.D.nearest false n 0:=by
 have e1:(n<<<K).log2=n.log2+K:=by
  have hne:n<<<K≠0:=by rw[Nat.shiftLeft_eq];exact Nat.mul_ne_zero h0 (Nat.pos_iff_ne_zero.1 (Nat.two_pow_pos K))
  have g1:2^n.log2≤n:=Nat.log2_self_le h0;have g2:n<2^(n.log2+1):=Nat.lt_log2_self;apply Nat.le_antisymm
  ·apply Nat.le_of_lt_succ
   rw[Nat.log2_lt hne,Nat.shiftLeft_eq,Nat.succ_eq_add_one,show n.log2+K+1=(n.log2+1)+K from by omega,Nat.pow_add];exact Nat.mul_lt_mul_of_pos_right g2 (Nat.two_pow_pos K)
  ·rw[Nat.le_log2 hne,Nat.shiftLeft_eq,Nat.pow_add]
   exact Nat.mul_le_mul_right _ g1
 have hD:Fl.D.leastPlace= -1074:=by decide
 have hf:Fl.D.fractionBits=52:=by decide
 have hne:n<<<K≠0:=by rw[Nat.shiftLeft_eq];exact Nat.mul_ne_zero h0 (Nat.pos_iff_ne_zero.1 (Nat.two_pow_pos K))
 unfold Ieee.Format.nearest;rw[if_neg hne,if_neg h0,e1,hD,hf];have l1:max (-(K:Int)+((n.log2+K:Nat):Int)-(52:Nat)) (-1074)=(n.log2:Int)-52:=by omega
 have l2:max ((0:Int)+(n.log2:Int)-(52:Nat)) (-1074)=(n.log2:Int)-52:=by omega
 rw[l1,l2];obtain⟨t,ht⟩:∃t:Nat,(t:Int)=52-(n.log2:Int):=⟨52-n.log2,by omega⟩;have c0:∀m:Nat,Ieee.Toward.even.cut false m 0=m:=by
  intro m;unfold Ieee.Toward.cut;simp[Nat.mod_one]
 have hk:Ieee.Toward.even.cut false ((n<<<K)<<<(-(K:Int)-((n.log2:Int)-52)).toNat) (((n.log2:Int)-52)- -(K:Int)).toNat=n<<<t:=by
  rcases Nat.le_total K t with h|h
  ·have a1:(-(K:Int)-((n.log2:Int)-52)).toNat=t-K:=by omega
   have a2:(((n.log2:Int)-52)- -(K:Int)).toNat=0:=by omega
   rw[a1,a2,c0,←Nat.shiftLeft_add,Nat.add_sub_cancel' h]
  ·have a1:(-(K:Int)-((n.log2:Int)-52)).toNat=0:=by omega
   have a2:(((n.log2:Int)-52)- -(K:Int)).toNat=K-t:=by omega
   rw[a1,a2];unfold Ieee.Toward.cut;have b1:min (K-t) ((n<<<K<<<0).log2+2)=K-t:=by
    show min (K-t) ((n<<<K).log2+2)=K-t;rw[e1];omega
   rw[b1];have b2:n<<<K<<<0=(n<<<t)*(1<<<(K-t)):=by
    show n<<<K=_;rw[Nat.shiftLeft_eq,Nat.shiftLeft_eq,Nat.shiftLeft_eq,Nat.one_mul,Nat.mul_assoc,←Nat.pow_add,Nat.add_sub_cancel' h]
   have b3:0<1<<<(K-t):=by rw[Nat.shiftLeft_eq,Nat.one_mul];exact Nat.two_pow_pos _
   rw[b2];simp only[Nat.mul_div_cancel _ b3,Nat.mul_mod_left];have b4:(decide (1<<<(K-t)<2*0)||(1<<<(K-t)==2*0&&(n<<<t)%2==1))=false:=by
    have:¬(1<<<(K-t)<2*0):=by omega
    rw[decide_eq_false this,Bool.false_or];have:(1<<<(K-t)==2*0)=false:=by rw[beq_eq_false_iff_ne];omega
    rw[this,Bool.false_and]
   rw[b4];rfl
 have hk0:Ieee.Toward.even.cut false (n<<<((0:Int)-((n.log2:Int)-52)).toNat) (((n.log2:Int)-52)-(0:Int)).toNat=n<<<t:=by
  have a1:((0:Int)-((n.log2:Int)-52)).toNat=t:=by omega
  have a2:(((n.log2:Int)-52)-(0:Int)).toNat=0:=by omega
  rw[a1,a2,c0]
 simp only[hk,hk0]
theorem fl_near (n:Nat):fl n=Fl.D.nearest false n 0:=by
 have h1:(decide (Int.ofNat n<0))=false:=decide_eq_false (by have:Int.ofNat n=(n:Int):=rfl;omega);show Fl.D.write (.number (decide (Int.ofNat n<0)) (Int.natAbs (.ofNat n)) 0)=_;rw[h1];rfl
theorem sig_shift {a k K:Nat} (h:k≤K):Ieee.signed false (a<<<k) (-(k:Int)- -(K:Int)).toNat=((a<<<K:Nat):Int):=by
 have h1:(-(k:Int)- -(K:Int)).toNat=K-k:=by omega
 rw[h1];unfold Ieee.signed;rw[if_neg (by decide),←Nat.shiftLeft_add,Nat.add_sub_cancel' h]
theorem fl_add {a b:Nat} (ha:a<1000) (hb:b<1000):Fl.D.add (fl a) (fl b)=some (fl (a+b)):=by
 obtain⟨k,hk,hr⟩:=fl_read ha;obtain⟨j,hj,hs⟩:=fl_read hb;have hdef:Fl.D.add (fl a) (fl b)=(Ieee.Datum.sum (Fl.D.read (fl a)) (Fl.D.read (fl b))).map Fl.D.write:=rfl;rw[hdef,hr,hs];obtain⟨K,hK⟩:∃K:Nat,K=max k j:=⟨_,rfl⟩;have hmin:min (-(k:Int)) (-(j:Int))= -(K:Int):=by omega
 have hsum:Ieee.Datum.sum (.number false (a<<<k) (-(k:Int))) (.number false (b<<<j) (-(j:Int)))=some (.number false ((a+b)<<<K) (-(K:Int))):=by
  show some (Ieee.Datum.number (if Ieee.signed false (a<<<k) (-(k:Int)-min (-(k:Int)) (-(j:Int))).toNat+Ieee.signed false (b<<<j) (-(j:Int)-min (-(k:Int)) (-(j:Int))).toNat=0 then false&&false else _) _ (min (-(k:Int)) (-(j:Int))))=_;rw[hmin,sig_shift (show k≤K by omega),sig_shift (show j≤K by omega)];have e:((a<<<K:Nat):Int)+((b<<<K:Nat):Int)=(((a+b)<<<K:Nat):Int):=by
   rw[Nat.shiftLeft_eq,Nat.shiftLeft_eq,Nat.shiftLeft_eq,Nat.add_mul];omega
  rw[e];have e2:(if((((a+b)<<<K:Nat):Int)=0)then(false&&false)else decide (((((a+b)<<<K:Nat):Int)<0)))=false:=by
   split
   ·rfl
   ·exact decide_eq_false (fun h=>absurd h (Int.not_lt.2 (Int.natCast_nonneg _)))
  rw[e2];rfl
 rw[hsum]
 suffices hfin:Fl.D.nearest false ((a+b)<<<K) (-(K:Int))=fl (a+b)from congrArg some hfin
 rw[fl_near]
 by_cases h0:a+b=0
 ·rw[h0]
  have:(0<<<K)=0:=by rw[Nat.shiftLeft_eq,Nat.zero_mul]
  rw[this];unfold Ieee.Format.nearest;rw[if_pos rfl,if_pos rfl]
 ·refine near_shift h0 ?_ (by omega)
  have:(a+b).log2<53:=(Nat.log2_lt h0).2 (by omega);omega
theorem add_fl {a b:Nat} (ha:a<1000) (hb:b<1000):fbin .add (fl a) (fl b)=some (.flt (fl (a+b))):=by
 show fval (Fl.D.add (fl a) (fl b))=_;rw[fl_add ha hb];rfl
end Go.Proofs.YtiahijhpjloijaaGreat.V

namespace Go.Proofs.YtiahijhpjloijaaGreat.V
open Go Go.RowKit
noncomputable def fls (l:List Nat):List U:=(l.map fl).map .flt
theorem fls_len (l:List Nat):(fls l).length=l.length:=by unfold fls;rw[List.length_map,List.length_map]
def nx (l:List Nat) (i:Nat):Nat:=l.getD i 0
theorem fls_get {l:List Nat} {i:Nat} (h:i<l.length):(fls l)[i]?=some (.flt (fl (nx l i))):=by
 unfold fls nx;rw[List.getElem?_map,List.getElem?_map,List.getElem?_eq_getElem h,List.getD_eq_getElem?_getD,List.getElem?_eq_getElem h];rfl
def Sml (l:List Nat):Prop:=(∀x∈l,x≤49)∧l.length≤18∧l≠[]
theorem nx_le {l:List Nat} (h:Sml l) {i:Nat} (hi:i<l.length):nx l i≤49:=by
 refine h.1 _ ?_;unfold nx;rw[List.getD_eq_getElem?_getD,List.getElem?_eq_getElem hi];exact List.getElem_mem hi
def sumN (x:Nat→Nat):Nat→Nat
 |0=>0
 |i+1=>sumN x i+x i
theorem sumN_le {x:Nat→Nat} {N:Nat} (h:∀i,i<N→x i≤49):∀i,i≤N→sumN x i≤49*i
 |0,_=>Nat.le_refl _
 |i+1,hi=>by
  have h1:=sumN_le h i (by omega);have h2:=h i (by omega);unfold sumN;omega
def runN (lt:Nat→Nat→Bool) (x:Nat→Nat):Nat→Nat
 |0=>x 0
 |i+1=>bif lt (x (i+1)) (runN lt x i)then x (i+1)else runN lt x i
theorem runN_le {lt:Nat→Nat→Bool} {x:Nat→Nat} {N:Nat} (h:∀i,i<N→x i≤49):∀i,i<N→runN lt x i≤49
 |0,hi=>h 0 hi
 |i+1,hi=>by
  have h1:=runN_le (lt:=lt) h i (by omega);have h2:=h (i+1) hi;unfold runN
  cases lt (x (i+1)) (runN lt x i)
  ·exact h1
  ·exact h2
theorem fl_zero:fl 0=0:=by kernel_rfl
theorem fuel_lt {n:Nat} (h:n≤1000):n<FUEL:=by unfold FUEL;omega
theorem sum_both {l:List Nat} (h:Sml l) (n:Nat):GDD (n+1) 57 [.one (.v (.fz 1 l.length (fls l)))] []=some (.one (.v (.flt (fl (sumN (nx l) l.length)))),[])∧GDD (n+1) 60 [.one (.v (.fz 1 l.length (fls l)))] []=some (.one (.v (.flt (fl (sumN (nx l) l.length)))),[]):=by
 have hN:=h.2.1;have hb:∀i,i<l.length→nx l i≤49:=fun i hi=>nx_le h hi
 have hS:∀i,i<l.length→fbin .add (fl (sumN (nx l) i)) (fl (nx l i))=some (.flt (fl (sumN (nx l) (i+1)))):=fun i hi=>by
  have h1:=sumN_le hb i (by omega);have h2:=hb i hi;exact add_fl (by omega) (by omega)
 constructor
 ·rw[gdd_f (f:=57) (b:=b57) rfl rfl]
  exact sum57 (X:=fun i=>fl (nx l i)) (S:=fun i=>fl (sumN (nx l) i)) (fun i hi=>fls_get hi) hS (by omega) fl_zero (fuel_lt (by omega))
 ·rw[gdd_f (f:=60) (b:=b60) rfl rfl]
  exact sum60 (X:=fun i=>fl (nx l i)) (S:=fun i=>fl (sumN (nx l) i)) (fun i hi=>fls_get hi) hS (by omega) fl_zero (fuel_lt (by omega))
noncomputable def quoU (a b:Nat):U:=match Fl.D.div a b with|some c=>.flt c|none=>.nan
theorem quoU_c (a b:Nat):∃c,cbin .quo (.flt a) (.flt b)=some c∧cU c=some (quoU a b):=by
 have h:cbin .quo (.flt a) (.flt b)=fval (Fl.D.div a b):=rfl;rw[h];unfold quoU
 cases Fl.D.div a b with
 |none=>exact⟨_,rfl,rfl⟩
 |some c=>exact⟨_,rfl,rfl⟩
theorem quoU_flo (a b:Nat):∃k,Flo (quoU a b) k:=by
 unfold quoU
 cases h:Fl.D.div a b with
 |none=>exact⟨_,.n⟩
 |some c=>exact⟨_,.f c (Ieee.Format.div_lt _ h)⟩
theorem mean_both {l:List Nat} (h:Sml l) (n:Nat):(∃H,GDD (n+2) 28 [.one (.v (.fz 1 l.length (fls l)))] []=some (.one (.v (quoU (fl (sumN (nx l) l.length)) (fl l.length))),H))∧∃H,GDD (n+2) 32 [.one (.v (.fz 1 l.length (fls l)))] []=some (.one (.v (quoU (fl (sumN (nx l) l.length)) (fl l.length))),H):=by
 obtain⟨h1,h2⟩:=sum_both h n;obtain⟨c,h3,h4⟩:=quoU_c (fl (sumN (nx l) l.length)) (fl l.length);constructor
 ·rw[gdd_f (f:=28) (b:=b28) rfl rfl]
  exact mean28 (fun e=>h.2.2 (List.eq_nil_of_length_eq_zero e)) h1 h3 h4
 ·rw[gdd_f (f:=32) (b:=b32) rfl rfl]
  exact mean32 h2 h3 h4
theorem inf59 (n:Nat):GDD (n+2) 59 [.one (.v (.int .i64 1))] []=some (.one (.v (.flt 9218868437227405312)),[]):=by kernel_rfl
theorem inf59m (n:Nat):GDD (n+2) 59 [.one (.v (.int .i64 (-1)))] []=some (.one (.v (.flt 18442240474082181120)),[]):=by kernel_rfl
noncomputable def vv (d:Nat) (lt:Nat→Nat→Bool) (x:Nat→Nat):Nat→Nat
 |0=>d
 |i+1=>fl (runN lt x i)
theorem vv_pos {d:Nat} {lt:Nat→Nat→Bool} {x:Nat→Nat}:∀{i:Nat},0<i→vv d lt x i=fl (runN lt x (i-1))
 |0,h=>absurd h (Nat.lt_irrefl _)
 |_+1,_=>rfl
def ltN (a b:Nat):Bool:=decide (a<b)
def gtN (a b:Nat):Bool:=decide (b<a)
theorem ends33 {l:List Nat} (h:Sml l) (n:Nat):GDD (n+3) 33 [.one (.v (.fz 1 l.length (fls l)))] []=some (.one (.v (.flt (fl (runN ltN (nx l) (l.length-1))))),[]):=by
 have hN:=h.2.1;have h0:0<l.length:=List.length_pos_iff.2 h.2.2;have hb:∀i,i<l.length→nx l i≤49:=fun i hi=>nx_le h hi
 rw[gdd_f (f:=33) (b:=b33) rfl rfl];have key:=ext33 (l:=fls l) (N:=l.length) (X:=fun i=>fl (nx l i)) (V:=vv 9218868437227405312 ltN (nx l)) (K:=fun i=>kk (fl (nx l i))) (KV:=fun i=>kk (fl (runN ltN (nx l) (i-1)))) (c:=fun i=>ltN (nx l i) (runN ltN (nx l) (i-1)))
  (P:=Tryz.prog) (O:=GDD (n+2)) (m:=FUEL) (hp:=[]) (fun i hi=>fls_get hi) (fun i hi=>k52u (fl_flo (by have:=hb i hi;omega)) n []) (fun i hi hi2=>by
    rw[vv_pos hi];exact k52u (fl_flo (by have:=runN_le (lt:=ltN) hb (i-1) (by omega);omega)) n [])
  (fun i hi hi2=>by
    have h1:=hb i hi2;have h2:=runN_le (lt:=ltN) hb (i-1) (by omega);show some (C.bool (ilt (.ofNat (kk (fl (nx l i)))) (.ofNat (kk (fl (runN ltN (nx l) (i-1)))))))=_;rw[ilt_nat,fl_kk (by omega),fl_kk (by omega)];have e:(fl (nx l i)+9223372036854775808<fl (runN ltN (nx l) (i-1))+9223372036854775808)↔nx l i<runN ltN (nx l) (i-1):=by
     rcases Nat.lt_trichotomy (nx l i) (runN ltN (nx l) (i-1))with hh|hh|hh
     ·have:=fl_lt hh (by omega);omega
     ·rw[hh];omega
     ·have:=fl_lt hh (by omega);omega
    exact congrArg (fun b=>some (C.bool b)) (decide_eq_decide.2 e)) (fun _=>rfl) (fun i hi hi2=>by
    obtain⟨j,rfl⟩:∃j,i=j+1:=⟨i-1,by omega⟩;show fl (runN ltN (nx l) (j+1))=bif ltN (nx l (j+1)) (runN ltN (nx l) j)then fl (nx l (j+1))else fl (runN ltN (nx l) j)
    conv=>lhs;unfold runN
    cases ltN (nx l (j+1)) (runN ltN (nx l) j)<;>rfl) (by omega) (gdd_20 (n+1) _ []) rfl (fuel_lt (by omega))
 rw[vv_pos h0]at key;exact key
theorem ends34 {l:List Nat} (h:Sml l) (n:Nat):GDD (n+3) 34 [.one (.v (.fz 1 l.length (fls l)))] []=some (.one (.v (.flt (fl (runN gtN (nx l) (l.length-1))))),[]):=by
 have hN:=h.2.1;have h0:0<l.length:=List.length_pos_iff.2 h.2.2;have hb:∀i,i<l.length→nx l i≤49:=fun i hi=>nx_le h hi
 rw[gdd_f (f:=34) (b:=b34) rfl rfl];have key:=ext34 (l:=fls l) (N:=l.length) (X:=fun i=>fl (nx l i)) (V:=vv 18442240474082181120 gtN (nx l)) (K:=fun i=>kk (fl (nx l i))) (KV:=fun i=>kk (fl (runN gtN (nx l) (i-1)))) (c:=fun i=>gtN (nx l i) (runN gtN (nx l) (i-1)))
  (P:=Tryz.prog) (O:=GDD (n+2)) (m:=FUEL) (hp:=[]) (fun i hi=>fls_get hi) (fun i hi=>k52u (fl_flo (by have:=hb i hi;omega)) n []) (fun i hi hi2=>by
    rw[vv_pos hi];exact k52u (fl_flo (by have:=runN_le (lt:=gtN) hb (i-1) (by omega);omega)) n [])
  (fun i hi hi2=>by
    have h1:=hb i hi2;have h2:=runN_le (lt:=gtN) hb (i-1) (by omega);show some (C.bool (ilt (.ofNat (kk (fl (runN gtN (nx l) (i-1))))) (.ofNat (kk (fl (nx l i))))))=_;rw[ilt_nat,fl_kk (by omega),fl_kk (by omega)];have e:(fl (runN gtN (nx l) (i-1))+9223372036854775808<fl (nx l i)+9223372036854775808)↔runN gtN (nx l) (i-1)<nx l i:=by
     rcases Nat.lt_trichotomy (nx l i) (runN gtN (nx l) (i-1))with hh|hh|hh
     ·have:=fl_lt hh (by omega);omega
     ·rw[hh];omega
     ·have:=fl_lt hh (by omega);omega
    exact congrArg (fun b=>some (C.bool b)) (decide_eq_decide.2 e)) (fun _=>rfl) (fun i hi hi2=>by
    obtain⟨j,rfl⟩:∃j,i=j+1:=⟨i-1,by omega⟩;show fl (runN gtN (nx l) (j+1))=bif gtN (nx l (j+1)) (runN gtN (nx l) j)then fl (nx l (j+1))else fl (runN gtN (nx l) j)
    conv=>lhs;unfold runN
    cases gtN (nx l (j+1)) (runN gtN (nx l) j)<;>rfl) (by omega) (gdd_20 (n+1) _ []) rfl (fuel_lt (by omega))
 rw[vv_pos h0]at key;exact key
theorem run58 {l:List Nat} (h:Sml l) (n:Nat) {lt:Nat→Nat→Bool} {sg:Int} (em:U) (hs:∀a b,a≤49→b≤49→∃q:Int,cbin .mul (.int .i64 (Fl.ord (fl a) (fl b))) (.int .i64 sg)=some (.int .i64 q)∧cbin .gtr (.int .i64 q) (.int .i64 0)=some (.bool (lt a b))):
 GDD (n+4) 58 [.one (.v (.fz 1 l.length (fls l))),.one (.v (.int .i64 sg)),.one (.v em)] []=some (.one (.v (.flt (fl (runN lt (nx l) (l.length-1))))),[]):=by
 have hN:=h.2.1;have h0:0<l.length:=List.length_pos_iff.2 h.2.2;obtain⟨M,hM⟩:∃M,l.length=M+1:=⟨l.length-1,by omega⟩;have hb:∀i,i<l.length→nx l i≤49:=fun i hi=>nx_le h hi
 rw[gdd_f (f:=58) (b:=b58) rfl rfl,hM];refine first58 (l:=fls l) (l':=[]) (M:=M) (X:=fun i=>fl (nx l i)) (V:=fun i=>fl (runN lt (nx l) i)) (c:=fun i=>lt (nx l (i+1)) (runN lt (nx l) i)) (fun i hi=>fls_get (by omega)) (fun i hi=>?_) (fun i hi=>?_) (by omega) (fls_get h0) rfl (by rw[fls_len,hM]) (fuel_lt (by omega))
 ·have h1:=hb (i+1) (by omega)
  have h2:=runN_le (lt:=lt) hb i (by omega);obtain⟨q,h3,h4⟩:=hs _ _ h1 h2;exact⟨_,q,o36v (by have:=fl_fin (a:=nx l (i+1)) (by omega);omega) (by have:=fl_fin (a:=runN lt (nx l) i) (by omega);omega) n,h3,h4⟩
 ·show fl (runN lt (nx l) (i+1))=bif lt (nx l (i+1)) (runN lt (nx l) i)then fl (nx l (i+1))else fl (runN lt (nx l) i)
  conv=>lhs;unfold runN
  cases lt (nx l (i+1)) (runN lt (nx l) i)<;>rfl
theorem sgL (a b:Nat) (ha:a≤49) (hb:b≤49):∃q:Int,cbin .mul (.int .i64 (Fl.ord (fl a) (fl b))) (.int .i64 (-1))=some (.int .i64 q)∧cbin .gtr (.int .i64 q) (.int .i64 0)=some (.bool (ltN a b)):=by
 rw[fl_ord (by omega) (by omega)];unfold ltN;rcases Nat.lt_trichotomy a b with h|h|h
 ·rw[if_pos h,decide_eq_true h];exact⟨1,rfl,rfl⟩
 ·rw[if_neg (by omega),if_neg (by omega),decide_eq_false (by omega)];exact⟨0,rfl,rfl⟩
 ·rw[if_neg (by omega),if_pos h,decide_eq_false (by omega)];exact⟨-1,rfl,rfl⟩
theorem sgG (a b:Nat) (ha:a≤49) (hb:b≤49):∃q:Int,cbin .mul (.int .i64 (Fl.ord (fl a) (fl b))) (.int .i64 1)=some (.int .i64 q)∧cbin .gtr (.int .i64 q) (.int .i64 0)=some (.bool (gtN a b)):=by
 rw[fl_ord (by omega) (by omega)];unfold gtN;rcases Nat.lt_trichotomy a b with h|h|h
 ·rw[if_pos h,decide_eq_false (by omega)];exact⟨-1,rfl,rfl⟩
 ·rw[if_neg (by omega),if_neg (by omega),decide_eq_false (by omega)];exact⟨0,rfl,rfl⟩
 ·rw[if_neg (by omega),if_pos h,decide_eq_true h];exact⟨1,rfl,rfl⟩
theorem ends29 {l:List Nat} (h:Sml l) (n:Nat):∃H,GDD (n+5) 29 [.one (.v (.fz 1 l.length (fls l)))] []=some (.one (.v (.flt (fl (runN ltN (nx l) (l.length-1))))),H):=by
 rw[gdd_f (f:=29) (b:=b29) rfl rfl];exact end29 (inf59 (n+2)) (run58 h n _ sgL)
theorem ends30 {l:List Nat} (h:Sml l) (n:Nat):∃H,GDD (n+5) 30 [.one (.v (.fz 1 l.length (fls l)))] []=some (.one (.v (.flt (fl (runN gtN (nx l) (l.length-1))))),H):=by
 rw[gdd_f (f:=30) (b:=b30) rfl rfl];exact end30 (inf59m (n+2)) (run58 h n _ sgG)
theorem none28 (n:Nat):GDD (n+3) 28 [.one (.v .nil)] []=some (.one (.v (.flt 9221120237041090561)),[]):=by kernel_rfl
theorem none29 (n:Nat):GDD (n+3) 29 [.one (.v .nil)] []=some (.one (.v (.flt 9218868437227405312)),[]):=by kernel_rfl
theorem none30 (n:Nat):GDD (n+3) 30 [.one (.v .nil)] []=some (.one (.v (.flt 18442240474082181120)),[]):=by kernel_rfl
theorem none32 (n:Nat):GDD (n+2) 32 [.one (.v .nil)] []=some (.one (.v .nan),[]):=by kernel_rfl
theorem none33 (n:Nat):GDD (n+2) 33 [.one (.v .nil)] []=some (.one (.v (.flt 9218868437227405312)),[]):=by kernel_rfl
theorem none34 (n:Nat):GDD (n+2) 34 [.one (.v .nil)] []=some (.one (.v (.flt 18442240474082181120)),[]):=by kernel_rfl
end Go.Proofs.YtiahijhpjloijaaGreat.V

namespace Go.Proofs.YtiahijhpjloijaaGreat.V
open Go
structure WOk (ws cl:List U) (fs:Nat→List U) (h a nw:Nat→Int) (mo un:Nat→Nat→Int):Prop where
 hw:ws.length=19
 h17:ws[17]?=some (.fz 20 3 cl)
 hcl:cl.length=3*20
 hq4:∀i,i<3→(pc 20 i cl)[4]?=some (.fz 8 6 (fs i))
 hfs:∀i,i<3→(fs i).length=6*8
 hnw:∀i,i<3→(pc 20 i cl)[1]?=some (.int .i64 (nw i))
 hh:∀i,i<3→(pc 20 i cl)[18]?=some (.int .i64 (h i))
 ha:∀i,i<3→(pc 20 i cl)[19]?=some (.int .i64 (a i))
 hmo:∀i j,i<3→j<6→(pc 8 j (fs i))[0]?=some (.int .i64 (mo i j))
 hun:∀i j,i<3→j<6→(pc 8 j (fs i))[1]?=some (.int .i64 (un i j))
 hle:∀i j,i<3→j<6→un i j≤nw i+49
section
variable{ws cl:List U} {fs:Nat→List U} {h a nw:Nat→Int} {mo un:Nat→Nat→Int}
def mdN (nw:Nat→Int) (mo un:Nat→Nat→Int) (i j:Nat):Int:=if nw i<un i j then mo i j else 0
def lfN (nw:Nat→Int) (mo un:Nat→Nat→Int) (i j:Nat):Nat:=if nw i<un i j∧mo i j≠0 then(un i j-nw i).toNat else 0
theorem lfN_le (w:WOk ws cl fs h a nw mo un) {i j:Nat} (hi:i<3) (hj:j<6):lfN nw mo un i j≤49:=by
 have:=w.hle i j hi hj;unfold lfN
 split<;>omega
theorem val_both (w:WOk ws cl fs h a nw mo un) {i j:Nat} (hi:i<3) (hj:j<6) (n:Nat):
 (∃G,GDD (n+1) 55 [.ag (mapsV (pc 8 j (fs i))),.one (.v (.int .i64 (nw i)))] []=some (.one (.v (.int .i64 (mdN nw mo un i j))),G))∧
 ∃G,GDD (n+1) 63 [.ag (mapsV (pc 8 j (fs i))),.one (.v (.int .i64 (nw i)))] []=some (.one (.v (.int .i64 (mdN nw mo un i j))),G):=by
 have hf:(pc 8 j (fs i)).length=8:=pc_len (w.hfs i hi) hj;have c1:cbin .geq (.int .i64 (nw i)) (.int .i64 (un i j))=some (.bool (decide (un i j≤nw i))):=by
  show some (C.bool (ile (un i j) (nw i)))=_;rw[ile_eq]
 have c2:cbin .lss (.int .i64 (nw i)) (.int .i64 (un i j))=some (.bool (decide (nw i<un i j))):=by
  show some (C.bool (ilt (nw i) (un i j)))=_;rw[ilt_eq]
 unfold mdN
 by_cases hc:nw i<un i j
 ·rw[if_pos hc]
  rw[decide_eq_false (by omega)]at c1;rw[decide_eq_true hc]at c2;constructor
  ·rw[gdd_f (f:=55) (b:=b55) rfl rfl]
   exact val55M hf (w.hmo i j hi hj) (w.hun i j hi hj) c1
  ·rw[gdd_f (f:=63) (b:=b63) rfl rfl]
   exact val63M hf (w.hmo i j hi hj) (w.hun i j hi hj) c2
 ·rw[if_neg hc]
  rw[decide_eq_true (by omega)]at c1;rw[decide_eq_false hc]at c2;constructor
  ·rw[gdd_f (f:=55) (b:=b55) rfl rfl]
   exact val55Z hf (w.hmo i j hi hj) (w.hun i j hi hj) c1
  ·rw[gdd_f (f:=63) (b:=b63) rfl rfl]
   exact val63Z hf (w.hmo i j hi hj) (w.hun i j hi hj) c2
theorem left_both (w:WOk ws cl fs h a nw mo un) {i j:Nat} (hi:i<3) (hj:j<6) (n:Nat):
 (∃G,GDD (n+3) 26 [.ag (mapsV ws),.one (.v (.int .i64 (.ofNat (i+1)))),.one (.v (.int .i64 (.ofNat (j+1))))] []=some (.one (.v (.int .i64 (.ofNat (lfN nw mo un i j)))),G))∧
 ∃G,GDD (n+3) 15 [.ag (mapsV ws),.one (.v (.int .i64 (.ofNat (i+1)))),.one (.v (.int .i64 (.ofNat (j+1))))] []=some (.one (.v (.int .i64 (.ofNat (lfN nw mo un i j)))),G):=by
 obtain⟨⟨G1,v55⟩,_⟩:=val_both w hi hj (n+1);obtain⟨_,⟨G2,v63⟩⟩:=val_both w hi hj n;have v37:∃G,GDD (n+2) 37 [.ag (mapsV ws),.one (.v (.int .i64 (.ofNat (i+1)))),.one (.v (.int .i64 (.ofNat (j+1))))] []=some (.one (.v (.int .i64 (mdN nw mo un i j))),G):=by
  rw[gdd_f (f:=37) (b:=b37) rfl rfl];exact valid37 (d:=0) (mo:=0) (un:=0) w.hw w.h17 w.hcl hi (w.hq4 i hi) (w.hnw i hi) (w.hfs i hi) hj v63
 obtain⟨G3,v37⟩:=v37;have hz:cbin .eql (.int .i64 (mdN nw mo un i j)) (.int .i64 (0))=some (.bool (decide (mdN nw mo un i j=0))):=by
  show some (C.bool (ieq (mdN nw mo un i j) 0))=_;rw[ieq_eq]
 rw[gdd_f (f:=26) (b:=b26) rfl rfl,gdd_f (f:=15) (b:=b15) rfl rfl]
 by_cases h0:mdN nw mo un i j=0
 ·have hl:lfN nw mo un i j=0:=by
   unfold lfN;unfold mdN at h0;rw[if_neg]
   rintro ⟨h1,h2⟩
   rw[if_pos h1]at h0;exact h2 h0
  rw[decide_eq_true h0]at hz;rw[hl];exact⟨left26Z (mo:=0) (un:=0) (d:=0) w.hw w.h17 w.hcl hi (w.hq4 i hi) (w.hnw i hi) (w.hfs i hi) hj v55 hz,left15Z (mo:=0) (un:=0) (d:=0) w.hw w.h17 w.hcl hi (w.hq4 i hi) (w.hnw i hi) (w.hfs i hi) hj v37 hz⟩
 ·have h1:nw i<un i j∧mo i j≠0:=by
   unfold mdN at h0
   by_cases h1:nw i<un i j
   ·rw[if_pos h1]at h0;exact⟨h1,h0⟩
   ·rw[if_neg h1]at h0;exact absurd rfl h0
  have hle:=w.hle i j hi hj;have hl:Int.sub (un i j) (nw i)=.ofNat (lfN nw mo un i j):=by
   have e:(lfN nw mo un i j:Int)=un i j-nw i:=by
    unfold lfN;rw[if_pos h1];omega
   exact e.symm
  have hs:cbin .sub (.int .i64 (un i j)) (.int .i64 (nw i))=some (.int .i64 (.ofNat (lfN nw mo un i j))):=by
   show some (C.int .i64 (wrapC .i64 (Int.sub (un i j) (nw i))))=_;have:=lfN_le w hi hj;rw[hl,wrap64' (by omega)]
  rw[decide_eq_false h0]at hz;exact⟨left26 (mo:=0) w.hw w.h17 w.hcl hi (w.hq4 i hi) (w.hnw i hi) (w.hfs i hi) hj v55 hz (w.hun i j hi hj) hs,left15 (mo:=0) w.hw w.h17 w.hcl hi (w.hq4 i hi) (w.hnw i hi) (w.hfs i hi) hj v37 hz (w.hun i j hi hj) hs⟩
def gtN0 (nw:Nat→Int) (mo un:Nat→Nat→Int) (i j:Nat):Bool:=decide (0<lfN nw mo un i j)
def left (nw:Nat→Int) (mo un:Nat→Nat→Int):List Nat:=outL (gtN0 nw mo un) (lfN nw mo un) 3
theorem addL_map {L:List Nat} {g:Nat→Bool} {x:Nat→Nat} {f:Nat→Nat}:∀j,addL (L.map f) g (fun j=>f (x j)) j=(addL L g x j).map f
 |0=>rfl
 |j+1=>by
  have h:=addL_map (L:=L) (g:=g) (x:=x) (f:=f) j;unfold addL;rw[h]
  cases g j
  ·rfl
  ·simp
theorem outL_map {g:Nat→Nat→Bool} {x:Nat→Nat→Nat} {f:Nat→Nat}:∀i,outL g (fun i j=>f (x i j)) i=(outL g x i).map f
 |0=>rfl
 |i+1=>by
  unfold outL;rw[outL_map i];exact addL_map 6
theorem addL_mem {L:List Nat} {g:Nat→Bool} {x:Nat→Nat}:∀{j y},y∈addL L g x j→y∈L∨∃k,k<j∧g k=true∧y=x k
 |0,y,h=>.inl h
 |j+1,y,h=>by
  unfold addL at h
  cases hg:g j
  ·rw[hg]at h
   rcases addL_mem h with h|⟨k,h1,h2,h3⟩
   ·exact .inl h
   ·exact .inr ⟨k,by omega,h2,h3⟩
  ·rw[hg]at h
   rcases List.mem_append.1 h with h|h
   ·rcases addL_mem h with h|⟨k,h1,h2,h3⟩
    ·exact .inl h
    ·exact .inr ⟨k,by omega,h2,h3⟩
   ·exact .inr ⟨j,by omega,hg,List.mem_singleton.1 h⟩
theorem outL_mem {g:Nat→Nat→Bool} {x:Nat→Nat→Nat}:∀{i y},y∈outL g x i→∃c k,c<i∧k<6∧g c k=true∧y=x c k
 |0,y,h=>by cases h
 |i+1,y,h=>by
  unfold outL at h;rcases addL_mem h with h|⟨k,h1,h2,h3⟩
  ·obtain⟨c,k,h1,h2⟩:=outL_mem h
   exact⟨c,k,by omega,h2⟩
  ·exact⟨i,k,by omega,h1,h2,h3⟩
theorem left_mem (w:WOk ws cl fs h a nw mo un) {x:Nat} (hx:x∈left nw mo un):1≤x∧x≤49:=by
 obtain⟨c,k,h1,h2,h3,rfl⟩:=outL_mem hx;exact⟨of_decide_eq_true h3,lfN_le w h1 h2⟩
theorem left_sml (w:WOk ws cl fs h a nw mo un) (hne:left nw mo un≠[]):Sml (left nw mo un):=
 ⟨fun x hx=>(left_mem w hx).2,outL_len 3,hne⟩
theorem left_Ld:Ld (outL (gtN0 nw mo un) (fun i j=>FloatKind.nearest .f64 (.ofNat (lfN nw mo un i j))) 3)=Ld ((left nw mo un).map fl):=by
 have h:outL (gtN0 nw mo un) (fun i j=>fl (lfN nw mo un i j)) 3=(left nw mo un).map fl:=outL_map 3;exact congrArg Ld h
theorem Ld_fls {l:List Nat} (hl:l≠[]):Ld (l.map fl)=.one (.v (.fz 1 l.length (fls l))):=by
 rw[Ld_ne (fun e=>hl (List.map_eq_nil_iff.1 e)),List.length_map];rfl
noncomputable def sumW (x:Nat→Int):Nat→Int
 |0=>0
 |i+1=>wrapC .i64 (Int.add (sumW x i) (x i))
noncomputable def allW (h a:Nat→Int):Nat→Int
 |0=>0
 |i+1=>wrapC .i64 (Int.add (wrapC .i64 (Int.add (allW h a i) (h i))) (a i))
theorem wrap_w (n:Int):wrapC .i64 n=(n+9223372036854775808)%18446744073709551616-9223372036854775808:=by
 rw[wrapC_eq];show(if(true&&decide (n%18446744073709551616≥9223372036854775808))=true then n%18446744073709551616-18446744073709551616 else n%18446744073709551616)=_
 by_cases hn:n%18446744073709551616≥9223372036854775808
 ·rw[if_pos (by simpa using hn)];omega
 ·rw[if_neg (by simpa using hn)];omega
theorem all_sum (h a:Nat→Int):∀i,allW h a i=wrapC .i64 (Int.add (sumW h i) (sumW a i))
 |0=>by show(0:Int)=wrapC .i64 (Int.add 0 0);rfl
 |i+1=>by
  have ih:=all_sum h a i;show wrapC .i64 (Int.add (wrapC .i64 (Int.add (allW h a i) (h i))) (a i))=wrapC .i64 (Int.add (wrapC .i64 (Int.add (sumW h i) (h i))) (wrapC .i64 (Int.add (sumW a i) (a i))));rw[ih];simp only[wrap_w];have e:∀x y:Int,Int.add x y=x+y:=fun _ _=>rfl
  simp only[e];omega
end
end Go.Proofs.YtiahijhpjloijaaGreat.V

namespace Go.Proofs.YtiahijhpjloijaaGreat.V
open Go
section
variable{ws cl:List U} {fs:Nat→List U} {h a nw:Nat→Int} {mo un:Nat→Nat→Int}
noncomputable def rep0 (h a:Nat→Int):U:=quoU (FloatKind.nearest .f64 (sumW h 3)) (FloatKind.nearest .f64 (allW h a 3))
noncomputable def rep1 (l:List Nat):U:=match l with|[]=>.flt 9221120237041090561|l=>quoU (fl (sumN (nx l) l.length)) (fl l.length)
noncomputable def rep1' (l:List Nat):U:=match l with|[]=>.nan|l=>quoU (fl (sumN (nx l) l.length)) (fl l.length)
noncomputable def rep2 (l:List Nat):U:=match l with|[]=>.flt 9218868437227405312|l=>.flt (fl (runN ltN (nx l) (l.length-1)))
noncomputable def rep3 (l:List Nat):U:=match l with|[]=>.flt 18442240474082181120|l=>.flt (fl (runN gtN (nx l) (l.length-1)))
theorem rep_ne {l:List Nat} (hl:l≠[]):rep1 l=quoU (fl (sumN (nx l) l.length)) (fl l.length)∧rep1' l=quoU (fl (sumN (nx l) l.length)) (fl l.length)∧rep2 l=.flt (fl (runN ltN (nx l) (l.length-1)))∧rep3 l=.flt (fl (runN gtN (nx l) (l.length-1))):=by
 cases l with
 |nil=>exact absurd rfl hl
 |cons x l=>exact⟨rfl,rfl,rfl,rfl⟩
theorem run_fin {l:List Nat} (hs:Sml l) (lt:Nat→Nat→Bool):fl (runN lt (nx l) (l.length-1))<18446744073709551616:=by
 have h0:0<l.length:=List.length_pos_iff.2 hs.2.2;have:=runN_le (lt:=lt) (x:=nx l) (N:=l.length) (fun i hi=>nx_le hs hi) (l.length-1) (by omega);have:=fl_fin (a:=runN lt (nx l) (l.length-1)) (by omega);omega
theorem isN_c:Fl.isN 9221120237041090561=true:=by decide
theorem rep_flo {l:List Nat} (hs:l≠[]→Sml l):(∃k,Flo (rep1 l) k∧Flo (rep1' l) k)∧(∃k,Flo (rep2 l) k)∧∃k,Flo (rep3 l) k:=by
 cases l with
 |nil=>
  refine⟨⟨18446744073709551615,?_,.n⟩,⟨_,.f _ (by decide)⟩,⟨_,.f _ (by decide)⟩⟩;have:kk 9221120237041090561=18446744073709551615:=by unfold kk;rw[isN_c];rfl
  exact this▸Flo.f 9221120237041090561 (by decide)
 |cons x l=>
  have hs:=hs (by simp);obtain⟨e1,e2,e3,e4⟩:=rep_ne (l:=x::l) (by simp);rw[e1,e2,e3,e4];obtain⟨k,hk⟩:=quoU_flo (fl (sumN (nx (x::l)) (x::l).length)) (fl (x::l).length);exact⟨⟨k,hk,hk⟩,⟨_,.f _ (run_fin hs _)⟩,⟨_,.f _ (run_fin hs _)⟩⟩
theorem ratio_both (h a:Nat→Int) (n:Nat):GDD (n+1) 27 [.one (.v (.int .i64 (sumW h 3))),.one (.v (.int .i64 (allW h a 3)))] []=some (.one (.v (rep0 h a)),[])∧GDD (n+1) 31 [.one (.v (.int .i64 (sumW h 3))),.one (.v (.int .i64 (allW h a 3)))] []=some (.one (.v (rep0 h a)),[]):=by
 obtain⟨c,h1,h2⟩:=quoU_c (FloatKind.nearest .f64 (sumW h 3)) (FloatKind.nearest .f64 (allW h a 3));rw[gdd_f (f:=27) (b:=b27) rfl rfl,gdd_f (f:=31) (b:=b31) rfl rfl];exact⟨ratio27 h1 h2,ratio31 h1 h2⟩
theorem list_both {l:List Nat} (hs:l≠[]→Sml l) (n:Nat):
 ((∃G,GDD (n+5) 28 [Ld (l.map fl)] []=some (.one (.v (rep1 l)),G))∧(∃G,GDD (n+5) 29 [Ld (l.map fl)] []=some (.one (.v (rep2 l)),G))∧∃G,GDD (n+5) 30 [Ld (l.map fl)] []=some (.one (.v (rep3 l)),G))∧
 (∃G,GDD (n+5) 32 [Ld (l.map fl)] []=some (.one (.v (rep1' l)),G))∧(∃G,GDD (n+5) 33 [Ld (l.map fl)] []=some (.one (.v (rep2 l)),G))∧∃G,GDD (n+5) 34 [Ld (l.map fl)] []=some (.one (.v (rep3 l)),G):=by
 by_cases hl:l=[]
 ·subst hl
  exact⟨⟨⟨_,none28 (n+2)⟩,⟨_,none29 (n+2)⟩,⟨_,none30 (n+2)⟩⟩,⟨_,none32 (n+3)⟩,⟨_,none33 (n+3)⟩,⟨_,none34 (n+3)⟩⟩
 ·have hs:=hs hl
  obtain⟨e1,e2,e3,e4⟩:=rep_ne hl;rw[Ld_fls hl,e1,e2,e3,e4];obtain⟨m1,m2⟩:=mean_both hs (n+3);exact⟨⟨m1,ends29 hs n,ends30 hs n⟩,m2,⟨_,ends33 hs (n+2)⟩,⟨_,ends34 hs (n+2)⟩⟩
theorem flo_quo (x y:Nat):glone (.v (quoU x y))=some [.v (quoU x y)]:=by
 obtain⟨k,hk⟩:=quoU_flo x y;exact flo_lone hk
theorem of_both (w:WOk ws cl fs h a nw mo un) (n:Nat):
 (∃H,GDD (n+6) 11 [.ag (mapsV ws)] []=some (.ag (mapsV [rep0 h a,rep1 (left nw mo un),rep2 (left nw mo un),rep3 (left nw mo un)]),H))∧
 ∃H,GDD (n+6) 12 [.ag (mapsV ws)] []=some (.ag (mapsV [rep0 h a,rep1' (left nw mo un),rep2 (left nw mo un),rep3 (left nw mo un)]),H):=by
 have hg:∀i j,i<3→j<6→cbin .gtr (.int .i64 (.ofNat (lfN nw mo un i j))) (.int .i64 (0))=some (.bool (gtN0 nw mo un i j)):=fun i j _ _=>by
  show some (C.bool (ilt (.ofNat 0) (.ofNat (lfN nw mo un i j))))=_;rw[ilt_nat];rfl
 obtain⟨⟨⟨G1,p1⟩,⟨G2,p2⟩,⟨G3,p3⟩⟩,⟨G4,q1⟩,⟨G5,q2⟩,⟨G6,q3⟩⟩:=list_both (l:=left nw mo un) (fun hl=>left_sml w hl) n;obtain⟨r1,r2⟩:=ratio_both h a (n+4);obtain⟨⟨k1,f1,f1'⟩,⟨k2,f2⟩,⟨k3,f3⟩⟩:=rep_flo (l:=left nw mo un) (fun hl=>left_sml w hl);have hT:cbin .add (.int .i64 (sumW h 3)) (.int .i64 (sumW a 3))=some (.int .i64 (allW h a 3)):=by
  rw[all_sum];rfl
 rw[←left_Ld]at p1 p2 p3 q1 q2 q3;rw[gdd_f (f:=11) (b:=b11) rfl rfl,gdd_f (f:=12) (b:=b12) rfl rfl];constructor
 ·exact of11 (hs:=sumW h) (sa:=sumW a) (lf:=fun i j=>.ofNat (lfN nw mo un i j)) w.hw w.h17 w.hcl w.hq4 w.hh w.ha (fun i j hi hj=>(left_both w hi hj (n+2)).1) hg (fun i _=>rfl) (fun i _=>rfl) (fuel_lt (by decide)) (flo_quo _ _) (flo_lone f1) (flo_lone f2) (flo_lone f3) hT r1 p1 p2 p3 rfl rfl
 ·exact of12 (hs:=sumW h) (al:=allW h a) (lf:=fun i j=>.ofNat (lfN nw mo un i j)) w.hw w.h17 w.hcl w.hq4 w.hh w.ha (fun i j hi hj=>(left_both w hi hj (n+2)).2) hg (fun i _=>rfl) (fun i _=>rfl) (fun i _=>rfl) (fuel_lt (by decide)) (flo_quo _ _) (flo_lone f1') (flo_lone f2) (flo_lone f3) r2 q1 q2 q3 rfl rfl
theorem o36m {b:Nat} (hN:Fl.isN b=true) (n:Nat):∃r,GDD (n+3) 36 [.one (.v (.flt b)),.one (.v .nan)] []=some (.one (.v (.int .i64 r)),[])∧cbin .eql (.int .i64 r) (.int .i64 (0))=some (.bool true):=by
 refine⟨0,?_,rfl⟩;rw[gdd_f (f:=36) (b:=b36) rfl rfl];have h:GDD (n+2) 61 [.one (.v .nan)] []=some (.one (.v (.bool true)),[]):=by
  rw[gdd_f (f:=61) (b:=b61) rfl rfl];exact none61_nan rfl
 have h1:=n61 b (n+1);rw[hN]at h1;exact ord_tn (b:=0) h1 h
theorem reps_same (w:WOk ws cl fs h a nw mo un) (n:Nat):
 (∃H,GDD (n+5) 13 [.ag (mapsV [rep0 h a,rep1 (left nw mo un),rep2 (left nw mo un),rep3 (left nw mo un)]),.ag (mapsV [rep0 h a,rep1' (left nw mo un),rep2 (left nw mo un),rep3 (left nw mo un)])] []=some (.one (.v (.bool true)),H))∧
 ∃H,GDD (n+4) 14 [.ag (mapsV [rep0 h a,rep1 (left nw mo un),rep2 (left nw mo un),rep3 (left nw mo un)]),.ag (mapsV [rep0 h a,rep1' (left nw mo un),rep2 (left nw mo un),rep3 (left nw mo un)])] []=some (.one (.v (.bool true)),H):=by
 obtain⟨⟨k1,f1,f1'⟩,⟨k2,f2⟩,⟨k3,f3⟩⟩:=rep_flo (l:=left nw mo un) (fun hl=>left_sml w hl);obtain⟨k0,f0⟩:∃k,Flo (rep0 h a) k:=quoU_flo _ _;constructor
 ·obtain⟨H,h1⟩:=same13_ok f0 f1 f2 f3 f0 f1' f2 f3 n
  rw[sm_self]at h1;exact⟨H,h1⟩
 ·obtain⟨r0,p0,q0⟩:=o36s f0 n
  obtain⟨r2,p2,q2⟩:=o36s f2 n;obtain⟨r3,p3,q3⟩:=o36s f3 n;have h1:∃r,GDD (n+3) 36 [.one (.v (rep1 (left nw mo un))),.one (.v (rep1' (left nw mo un)))] []=some (.one (.v (.int .i64 r)),[])∧cbin .eql (.int .i64 r) (.int .i64 (0))=some (.bool true):=by
   by_cases hl:left nw mo un=[]
   ·rw[hl]
    exact o36m isN_c n
   ·obtain⟨e1,e2,_,_⟩:=rep_ne hl
    rw[e1]at f1;rw[e1,e2];exact o36s f1 n
  obtain⟨r1,p1,q1⟩:=h1;rw[gdd_f (f:=14) (b:=b14) rfl rfl];exact same14_4 p0 p1 p2 p3 q0 q1 q2 q3
end
end Go.Proofs.YtiahijhpjloijaaGreat.V

