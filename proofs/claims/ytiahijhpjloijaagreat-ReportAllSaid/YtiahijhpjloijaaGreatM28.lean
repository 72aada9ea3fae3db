/- Parts of the proof, put together: S17, S18, S19, S20, S21, S22, S23. -/
import Derived.Test.YtiahijhpjloijaaGreatM27
import Derived.Test.YtiahijhpjloijaaGreatM19
import Derived.Test.YtiahijhpjloijaaGreatM24
import Derived.OpenShut
set_option linter.unusedVariables false
set_option linter.unusedSimpArgs false
namespace Go.Proofs.YtiahijhpjloijaaGreat.V
open Go
theorem CfCs.get {T:Nat→Option STy} {l:List CT} {σ:Nat→Int} {us:List U} {ms:List Int} (h:CfCs T l σ us ms):∀{i:Nat} {ct:CT},l[i]?=some ct→∃u m,us[i]?=some u∧ms[i]?=some m∧CfC T ct σ u m:=by
 induction l generalizing us ms with
 |nil=>intro i ct hi;cases hi
 |cons c l ih=>
  intro i ct hi
  cases h with
  |cons _ _ _ u us' m ms' h1 h2=>
   cases i with
   |zero=>cases hi;exact⟨u,m,rfl,rfl,h1⟩
   |succ i=>exact ih h2 hi
theorem CfC.isInt {T:Nat→Option STy} {k:IntKind} {σ:Nat→Int} {u:U} {m:Int} (h:CfC T (.int k) σ u m):u=.int k m:=by cases h;rfl
theorem sval_get {ms pv:List Int} {i:Nat} {m:Int} (h:ms[i]?=some m):sval ms pv i=m:=by
 unfold sval;rw[List.getD_eq_getElem?_getD,List.getElem?_append_left (lt_of_get h),h];rfl
theorem sval_par {ms:List Int} {p:Int} (n:Nat) (h:ms.length=n):sval ms [p] n=p:=by
 unfold sval;rw[List.getD_eq_getElem?_getD,List.getElem?_append_right (by omega),h,Nat.sub_self];rfl
theorem pc_eq (k i:Nat) (l:List U):pc k i l=(l.drop (i*k)).take k:=by unfold pc;rw[take_eq,drop_eq]
theorem file_cells {c:List U} {t:Int} (h:CfE XX.T 11 [t] c):∃mo un:Int,c[0]?=some (.int .i64 mo)∧c[1]?=some (.int .i64 un)∧un≤t:=by
 cases h with
 |mk _ _ _ ty ms ht h hc=>
  cases ht
  obtain⟨u0,m0,a0,b0,c0⟩:=h.get (i:=0) rfl;obtain⟨u1,m1,a1,b1,c1⟩:=h.get (i:=1) rfl;have e0:=c0.isInt;have e1:=c1.isInt;subst e0 e1;have h1:=hc (0,[(1,(-1)),(8,1)]) (by simp);have e8:sval ms [t] 8=t:=sval_par 8 h.len.2;have e1:sval ms [t] 1=m1:=sval_get b1;have h1:0≤0+((-1)*sval ms [t] 1+(1*sval ms [t] 8+0)):=h1;rw[e8,e1]at h1;exact⟨m0,m1,a0,a1,by omega⟩
theorem client_cells {c:List U} (h:CfE XX.T 14 [] c):∃(nw hh aa:Int) (fl:List U),c[1]?=some (.int .i64 nw)∧c[18]?=some (.int .i64 hh)∧c[19]?=some (.int .i64 aa)∧c[4]?=some (.fz 8 6 fl)∧fl.length=6*8∧∀j,j<6→CfE XX.T 11 [nw+49] (pc 8 j fl):=by
 cases h with
 |mk _ _ _ ty ms ht h hc=>
  cases ht
  obtain⟨u1,m1,a1,b1,c1⟩:=h.get (i:=1) rfl;obtain⟨u4,m4,a4,b4,c4⟩:=h.get (i:=4) rfl;obtain⟨u18,m18,a18,b18,c18⟩:=h.get (i:=18) rfl;obtain⟨u19,m19,a19,b19,c19⟩:=h.get (i:=19) rfl;have e1:=c1.isInt;have e18:=c18.isInt;have e19:=c19.isInt;subst e1 e18 e19;have f4:sval ms [] 4=m4:=sval_get b4;have f1:sval ms [] 1=m1:=sval_get b1;have h1:0≤(-6)+(1*sval ms [] 4+0):=hc ((-6),[(4,1)]) (by simp);have h2:0≤6+((-1)*sval ms [] 4+0):=hc (6,[(4,(-1))]) (by simp);rw[f4]at h1 h2
  cases c4 with
  |nil=>omega
  |fz _ _ _ k n l hk hl hE=>
   cases hk
   have hn:n=6:=by omega
   subst hn;refine⟨m1,m18,m19,l,a1,a18,a19,a4,hl,fun j hj=>?_⟩;have:=hE j hj;rw[pc_eq];have e:[(49,[(1,1)])].map (lv (sval ms []))=[m1+49]:=by
    show[49+(1*sval ms [] 1+0)]=_;rw[f1,Int.one_mul,Int.add_zero,Int.add_comm]
   rw[e]at this;exact this
theorem world_ok {ws cl:List U} {k m:Nat} (hw:ws.length=19) (h17:ws[17]?=some (.fz k m cl)) (hm:m=3) (hc:CfL XX.T 14 [] k m cl):∃fs h a nw mo un,WOk ws cl fs h a nw mo un:=by
 subst hm;obtain⟨hk,hl,hE⟩:=hc
 cases hk
 have hcl:∀i,i<3→∃(nw hh aa:Int) (fl:List U),(pc 20 i cl)[1]?=some (.int .i64 nw)∧(pc 20 i cl)[18]?=some (.int .i64 hh)∧(pc 20 i cl)[19]?=some (.int .i64 aa)∧(pc 20 i cl)[4]?=some (.fz 8 6 fl)∧fl.length=6*8∧∀j,j<6→CfE XX.T 11 [nw+49] (pc 8 j fl):=fun i hi=>by
  rw[pc_eq];exact client_cells (hE i hi)
 have h1:∀i:Nat,∃z:Int×Int×Int×List U,i<3→(pc 20 i cl)[1]?=some (.int .i64 z.1)∧(pc 20 i cl)[18]?=some (.int .i64 z.2.1)∧(pc 20 i cl)[19]?=some (.int .i64 z.2.2.1)∧(pc 20 i cl)[4]?=some (.fz 8 6 z.2.2.2)∧z.2.2.2.length=6*8∧∀j,j<6→CfE XX.T 11 [z.1+49] (pc 8 j z.2.2.2):=by
  intro i
  by_cases hi:i<3
  ·obtain⟨nw,hh,aa,fl,h⟩:=hcl i hi
   exact⟨(nw,hh,aa,fl),fun _=>h⟩
  ·exact⟨(0,0,0,[]),fun h=>absurd h hi⟩
 obtain⟨z,hz⟩:=Classical.axiomOfChoice h1;have h2:∀i:Nat,∃y:Nat→Int×Int,∀j,i<3→j<6→(pc 8 j (z i).2.2.2)[0]?=some (.int .i64 (y j).1)∧(pc 8 j (z i).2.2.2)[1]?=some (.int .i64 (y j).2)∧(y j).2≤(z i).1+49:=by
  intro i;have h3:∀j:Nat,∃y:Int×Int,i<3→j<6→(pc 8 j (z i).2.2.2)[0]?=some (.int .i64 y.1)∧(pc 8 j (z i).2.2.2)[1]?=some (.int .i64 y.2)∧y.2≤(z i).1+49:=by
   intro j
   by_cases hi:i<3∧j<6
   ·obtain⟨mo,un,e1,e2,e3⟩:=file_cells ((hz i hi.1).2.2.2.2.2 j hi.2)
    exact⟨(mo,un),fun _ _=>⟨e1,e2,e3⟩⟩
   ·exact⟨(0,0),fun a b=>absurd ⟨a,b⟩ hi⟩
  obtain⟨y,hy⟩:=Classical.axiomOfChoice h3;exact⟨y,hy⟩
 obtain⟨y,hy⟩:=Classical.axiomOfChoice h2;exact⟨fun i=>(z i).2.2.2,fun i=>(z i).2.1,fun i=>(z i).2.2.1,fun i=>(z i).1,fun i j=>(y i j).1,fun i j=>(y i j).2,
  ⟨hw,h17,hl,fun i hi=>(hz i hi).2.2.2.1,fun i hi=>(hz i hi).2.2.2.2.1,fun i hi=>(hz i hi).1,fun i hi=>(hz i hi).2.1,fun i hi=>(hz i hi).2.2.1,
    fun i j hi hj=>(hy i j hi hj).1,fun i j hi hj=>(hy i j hi hj).2.1,fun i j hi hj=>(hy i j hi hj).2.2⟩⟩
def Kx (a:Nat) (hp hp':List GO):Prop:=∀j o,j≠a→nth hp j=some o→nth hp' j=some o
section
variable{P:Program} {O:Oracle2} {dst:Option Pos} {gd:Option (Pos×Bool)} {r fr:Nat} {tm:Tr GD} {hp:List GO} {l:List Ins} {Q:GS→Prop}
theorem cCallP {f a e:Nat} {xs:List A} {us ws:List U} {t:List GD} {o:GO} {H:List GO} (hg:gguard gd tm=.run) (h:each (gval tm) xs=some (.one (.loc a 0)::t)) (ha:nth hp a=some (.ob e false (mapsV us))) (ht:Pu t) (hO:O f (.one (.loc 0 0)::t) [.ob e false (mapsV us)]=some (.ag (mapsV ws),o::H))
 (k:∀hp',Kx a hp hp'→∃t,gsteps P O l ⟨gput dst (.ag (mapsV ws)) tm,hp'⟩=some t∧Q t):∃t,gsteps P O (⟨dst,gd,r,fr,.call f xs⟩::l) ⟨tm,hp⟩=some t∧Q t:=by
 have h2:nth (setO hp a (.ob e false (mapsV us))) a=some (.ob e false (mapsV us)):=nth_set1 ha;have hga:gargs hp (.one (.loc a 0)::t)=some (setO hp a (.ob e false (mapsV us)),.one (.loc 0 0)::t,some a,[.ob e false (mapsV us)]):=by
  have h0:gargs hp (.one (.loc a 0)::t)=(match nth hp a with
   |some (.ob e false cs)=>match frs (frz 8) cs hp with
    |some (hp1,us)=>match nth hp1 a with
     |some (.ob _ false _)=>match gpure t (setO hp1 a (.ob e false (mapsV us)))with
      |some (hp2,ds')=>match nth hp2 a with
       |some (.ob _ false _)=>some (hp2,.one (.loc 0 0)::ds',some a,[.ob e false (mapsV us)])
       |_=>none
      |none=>none
     |_=>none
    |none=>none
   |_=>none):=rfl
  rw[h0,ha];simp only[frs_pure,ha,ht (setO hp a (.ob e false (mapsV us))),h2]
 refine ggo (sCall (d:=.ag (mapsV ws)) (hp':=app (setO (setO hp a (.ob e false (mapsV us))) a (renGO (rn (some a) (len (setO hp a (.ob e false (mapsV us))))) o)) (maps (renGO (rn (some a) (len (setO hp a (.ob e false (mapsV us)))))) H)) hg h ?_) (k _ ?_)
 ·unfold gcall
  rw[hga];simp only[hO];show some (GD.ag (maps (renG _) (mapsV ws)),_)=_;rw[maps_v]
 ·intro j o' hj hjo
  exact nth_app1 (nth_set2 h2 (nth_set2 ha hjo hj) hj)
theorem cCallM {f e i:Nat} {xs:List A} {ds:List GD} {us:List U} {H:List GO} (hg:gguard gd tm=.run) (h:each (gval tm) xs=some ds) (hd:Pu ds) (hO:O f ds []=some (.one (.loc i 0),H)) (hi:nth H i=some (.ob e false (mapsV us)))
 (k:∀a hp',Kp hp hp'→(∀j o,nth hp j=some o→j≠a)→nth hp' a=some (.ob e false (mapsV us))→∃t,gsteps P O l ⟨gput dst (.one (.loc a 0)) tm,hp'⟩=some t∧Q t):∃t,gsteps P O (⟨dst,gd,r,fr,.call f xs⟩::l) ⟨tm,hp⟩=some t∧Q t:=by
 refine ggo (sCall (d:=.one (.loc (len hp+i) 0)) (hp':=app hp (maps (renGO (rn none (len hp))) H)) hg h ?_) (k _ _ .app ?_ ?_)
 ·unfold gcall
  rw[gargs_pu (hd hp) hd.noloc];simp only[hO];rfl
 ·intro j o hj
  rw[nth_eq]at hj;have:=lt_of_get hj;rw[len_eq];omega
 ·rw[nth_eq,app_eq,len_eq,List.getElem?_append_right (by omega),maps_eq,List.getElem?_map]
  rw[nth_eq]at hi;rw[show hp.length+i-hp.length=i from by omega,hi];show some (GO.ob e false (maps (renG _) (mapsV us)))=_;rw[maps_v]
end
end Go.Proofs.YtiahijhpjloijaaGreat.V

namespace Go.Proofs.YtiahijhpjloijaaGreat.V
open Go
def Byt (u:U) (n:Nat):Prop:=(u=.nil∧n=0)∨∃k l,u=.fz k n l∧CfL XX.T 0 [] k n l
def lstU (u:U):List U:=match u with| .fz _ _ l=>l|_=>[]
def pureAC (c:AC):Bool:=match c with| .int .. | .bool .. | .str .. | .un| .np| .nil| .sl .. =>true|_=>false
theorem pure_v {e:AEnv} {c:AC} {g:G} (h:pureAC c=true) (hg:gaC XX e c g):∃u,g=.v u:=by
 cases c<;>simp only[pureAC,Bool.false_eq_true]at h
 case int k x=>exact⟨_,hg⟩
 case bool b=>exact⟨_,hg⟩
 case str x=>obtain⟨l,h1,_⟩:=hg;exact⟨_,h1⟩
 case un=>exact⟨_,hg⟩
 case np=>exact⟨_,hg⟩
 case nil=>exact⟨_,hg⟩
 case sl t ps n nm=>
  rcases hg with⟨h1,_⟩|⟨k,m,h1,_⟩
  ·exact⟨_,h1⟩
  ·exact⟨_,h1⟩
theorem pures_v {e:AEnv}:∀{cs:List AC} {gs:List G},cs.all pureAC=true→Al (gaC XX e) cs gs→∃ws,gs=mapsV ws
 |[],_,_,.nil=>⟨[],rfl⟩
 |c::cs,_,h,.cons (y:=g) (m:=gs) h1 h2=>by
  simp only[List.all_cons,Bool.and_eq_true]at h;obtain⟨u,rfl⟩:=pure_v h.1 h1;obtain⟨ws,rfl⟩:=pures_v h.2 h2;exact⟨u::ws,rfl⟩
theorem al_conv {e e':AEnv}:∀{cs cs':List AC} {gs:List G},Al (fun c c'=>∀g,gaC XX e c g→gaC XX e' c' g) cs cs'→Al (gaC XX e) cs gs→Al (gaC XX e') cs' gs
 |[],_,_,.nil,.nil=>.nil
 |_::_,_,_,.cons h1 h2,.cons k1 k2=>.cons (h1 _ k1) (al_conv h2 k2)
theorem cvInt {e e':AEnv} {k:IntKind} {x y:Lin} (h:lv e.ρ x=lv e'.ρ y) (g:G) (hg:gaC XX e (.int k x) g):gaC XX e' (.int k y) g:=by
 show g=.v (.int k (lv e'.ρ y));rw[←h];exact hg
theorem cvBool {e e':AEnv} {x y:Lin} (h:lv e.ρ x=lv e'.ρ y) (g:G) (hg:gaC XX e (.bool (.ge x)) g):gaC XX e' (.bool (.ge y)) g:=by
 show g=.v (.bool (decide (0≤lv e'.ρ y)));rw[←h];exact hg
theorem cvSl {e e':AEnv} {t nm nm':Nat} {n n':Lin} (h:lv e.ρ n=lv e'.ρ n') (hl:e.L nm=e'.L nm') (g:G) (hg:gaC XX e (.sl t [] n nm) g):gaC XX e' (.sl t [] n' nm') g:=by
 rcases hg with⟨h1,h2⟩|⟨k,m,h1,h2,h3⟩
 ·exact .inl ⟨h1,by rw[←h];exact h2⟩
 ·exact .inr ⟨k,m,by rw[←hl];exact h1,by rw[←h];exact h2,by rw[←hl];exact h3⟩
theorem byt_sl {u:U} {n:Nat} (h:Byt u n) {e:AEnv} {nm:Nat} {x:Lin} (hx:lv e.ρ x=n) (hl:e.L nm=lstU u):gaC XX e (.sl 0 [] x nm) (.v u):=by
 rcases h with⟨rfl,rfl⟩|⟨k,l,rfl,hc⟩
 ·exact .inl ⟨rfl,by rw[hx];rfl⟩
 ·exact .inr ⟨k,n,by rw[hl];rfl,by rw[hx],by rw[hl];exact hc⟩
theorem sl_byt {e:AEnv} {g:G} {n nm:Nat} {x:Lin} (hx:lv e.ρ x=n) (h:gaC XX e (.sl 0 [] x nm) g):∃u,g=.v u∧Byt u n:=by
 rcases h with⟨h1,h2⟩|⟨k,m,h1,h2,h3⟩
 ·exact⟨_,h1,.inl ⟨rfl,by rw[hx]at h2;omega⟩⟩
 ·have:m=n:=by rw[hx]at h2;omega
  subst this;exact⟨_,h1,.inr ⟨k,_,rfl,h3⟩⟩
theorem made8 {u:U} {n:Nat} (h:Byt u n) (hn:n≤1073741824) (k:Nat):
 ∃i H' u',GDD (k+1) 8 [.one (.v u)] []=some (.one (.loc i 0),H')∧nth H' i=some (.ob 72 false (mapsV [u',.int .i64 0]))∧Byt u' n:=by
 have hc:=con_holds Cs.c8 (n:=k+1) (Nat.succ_pos k);obtain⟨d,H',h1,o,ho,hnv,e1,ha,hp⟩:=hc ⟨fun _=>n,fun _=>0,fun _=>true,fun _=>lstU u⟩ [.one (.v u)] [] (by
  intro e' he';have hr:e'.ρ 0=n:=(he' 0 (by decide)).1;have hl:e'.L 0=lstU u:=(he' 0 (by decide)).2.2.2;refine⟨?_,.cons (byt_sl h (x:=(0,[(0,1)])) (by show 0+(1*e'.ρ 0+0)=_;rw[hr];omega) hl) .nil,rfl,by intro z hz;cases hz⟩;intro x hx;simp only[con8,List.mem_cons,List.not_mem_nil,or_false]at hx;rcases hx with rfl|rfl
  ·show 0≤0+(1*e'.ρ 0+0);rw[hr];omega
  ·show 0≤1073741824+((-1)*e'.ρ 0+0);rw[hr];omega)
 simp only[con8,List.mem_singleton]at ho;subst ho;have hP:=hp e1 (.refl _ _);have hd:=hP.d;have hob:=hP.ob (1,.X 72 [.sl 0 [] (0,[(0,1)]) 0,.int .i64 (0,[])]) (by simp)
 cases d with
 |ag _=>exact hd.elim
 |tup _=>exact hd.elim
 |one g=>
  obtain⟨hon,rfl⟩:=hd;obtain⟨_,x,h2,gs,rfl,h3⟩:=hob.2.2 hon
  cases h3 with
  |cons k1 t=>
   cases t with
   |cons k2 t=>
    cases t
    obtain⟨u',rfl,hb⟩:=sl_byt (n:=n) (by show 0+(1*e1.ρ 0+0)=_;rw[(ha 0 (by decide)).1];show 0+(1*(n:Int)+0)=_;omega) k1;have k2:_=G.v (.int .i64 (0+0)):=k2;subst k2;exact⟨_,_,u',h1,by rw[nth_eq];exact h2,hb⟩
end Go.Proofs.YtiahijhpjloijaaGreat.V

namespace Go.Proofs.YtiahijhpjloijaaGreat.V
open Go
def e9 (n1:Nat) (u1:U) (e:AEnv):AEnv:=
 ⟨fun v=>match v with|0=>n1|1=>0|3=>19|7=>6|8=>3|12=>3|13=>3|19=>3|21=>60|v=>e.ρ v,e.ν,e.on,fun v=>match v with|0=>lstU u1|v=>e.L v⟩
theorem run_world {u1 u2:U} {n1 n2:Nat} (h1:Byt u1 n1) (hn1:n1≤250) (h2:Byt u2 n2) (hn2:n2≤30) (k:Nat):
 ∃ws o H,GDD (k+13) 10 [.one (.loc 0 0)] [.ob 72 false (mapsV [u2,.int .i64 0])]=some (.ag (mapsV ws),o::H)∧
 ∃ws' o' H',GDD (k+13) 9 [.one (.loc 0 0),.ag (mapsV ws),.one (.v (.int .i64 60))] [.ob 72 false (mapsV [u1,.int .i64 0])]=some (.ag (mapsV ws'),o'::H')∧ws.length=19∧
 ∃cl fs h a nw mo un,WOk ws' cl fs h a nw mo un:=by
 have hc:=con_holds Cs.c10 (n:=k+13) (by show 12<k+13;omega);obtain⟨d,H,q1,o,ho,hnv,e1,ha,hp⟩:=hc ⟨fun v=>match v with|0=>n2|_=>0,fun _=>0,fun _=>true,fun _=>lstU u2⟩ [] [.ob 72 false (mapsV [u2,.int .i64 0])] (by
  intro e' he';have hr0:e'.ρ 0=n2:=(he' 0 (by decide)).1;have hr1:e'.ρ 1=0:=(he' 1 (by decide)).1;have hl:e'.L 0=lstU u2:=(he' 0 (by decide)).2.2.2;refine⟨?_,.nil,⟨_,rfl,.cons (byt_sl h2 (x:=(0,[(0,1)])) (by show 0+(1*e'.ρ 0+0)=_;rw[hr0];omega) hl) (.cons (by show G.v (.int .i64 0)=.v (.int .i64 (0+(1*e'.ρ 1+0)));rw[hr1];rfl) .nil)⟩,by intro z hz;cases hz⟩;intro x hx;simp only[con10,List.mem_cons,List.not_mem_nil,or_false]at hx;rcases hx with rfl|rfl|rfl|rfl<;>simp only[lv,evl,hr0,hr1]<;>omega)
 simp only[con10,List.mem_singleton]at ho;subst ho;have hP:=hp e1 (.refl _ _);have hd:=hP.d;have hf:=hP.fa;have hpt:=hP.ptr 72 _ rfl
 cases d with
 |one _=>exact hd.elim
 |tup _=>exact hd.elim
 |ag gs=>
  obtain⟨ws,rfl⟩:=pures_v rfl hd;have hlen:ws.length=19:=by
   have:=Al.len hd;rw[mapsV_eq,List.length_map]at this;exact this.symm
  obtain⟨g0,hH,_⟩:=hpt;obtain⟨o,H1,rfl⟩:∃o H1,H=o::H1:=by
   cases H with
   |nil=>cases hH
   |cons o H1=>exact⟨o,H1,rfl⟩
  refine⟨ws,o,H1,q1,?_⟩;have hc9:=con_holds Cs.c9 (n:=k+13) (by show 11<k+13;omega);obtain⟨d',H',q2,o',ho',hnv',e2,ha',hp'⟩:=hc9 (e9 n1 u1 e1) [.ag (mapsV ws),.one (.v (.int .i64 60))] [.ob 72 false (mapsV [u1,.int .i64 0])] (by
   intro e' he';have r0:e'.ρ 0=n1:=(he' 0 (by decide)).1;have r1:e'.ρ 1=0:=(he' 1 (by decide)).1;have r2:e'.ρ 2=e1.ρ 2:=(he' 2 (by decide)).1;have r3:e'.ρ 3=19:=(he' 3 (by decide)).1;have r4:e'.ρ 4=e1.ρ 4:=(he' 4 (by decide)).1;have r5:e'.ρ 5=e1.ρ 5:=(he' 5 (by decide)).1;have r6:e'.ρ 6=e1.ρ 6:=(he' 6 (by decide)).1;have r7:e'.ρ 7=6:=(he' 7 (by decide)).1;have r8:e'.ρ 8=3:=(he' 8 (by decide)).1;have r9:e'.ρ 9=e1.ρ 9:=(he' 9 (by decide)).1;have r10:e'.ρ 10=e1.ρ 10:=(he' 10 (by decide)).1;have r11:e'.ρ 11=e1.ρ 11:=(he' 11 (by decide)).1;have r12:e'.ρ 12=3:=(he' 12 (by decide)).1;have r13:e'.ρ 13=3:=(he' 13 (by decide)).1;have r14:e'.ρ 14=e1.ρ 14:=(he' 14 (by decide)).1;have r15:e'.ρ 15=e1.ρ 15:=(he' 15 (by decide)).1;have r16:e'.ρ 16=e1.ρ 16:=(he' 16 (by decide)).1;have r17:e'.ρ 17=e1.ρ 17:=(he' 17 (by decide)).1;have r18:e'.ρ 18=e1.ρ 18:=(he' 18 (by decide)).1;have r19:e'.ρ 19=3:=(he' 19 (by decide)).1;have r20:e'.ρ 20=e1.ρ 20:=(he' 20 (by decide)).1;have r21:e'.ρ 21=60:=(he' 21 (by decide)).1;have l0:e'.L 0=lstU u1:=(he' 0 (by decide)).2.2.2;have l3:e'.L 3=e1.L 3:=(he' 3 (by decide)).2.2.2;have l4:e'.L 4=e1.L 4:=(he' 4 (by decide)).2.2.2;have l7:e'.L 7=e1.L 7:=(he' 7 (by decide)).2.2.2;have l8:e'.L 8=e1.L 8:=(he' 8 (by decide)).2.2.2;have l10:e'.L 10=e1.L 10:=(he' 10 (by decide)).2.2.2;have l11:e'.L 11=e1.L 11:=(he' 11 (by decide)).2.2.2;have l12:e'.L 12=e1.L 12:=(he' 12 (by decide)).2.2.2;have l13:e'.L 13=e1.L 13:=(he' 13 (by decide)).2.2.2;have l19:e'.L 19=e1.L 19:=(he' 19 (by decide)).2.2.2;have l20:e'.L 20=e1.L 20:=(he' 20 (by decide)).2.2.2;have f0:=hf (0,[(2,1)]) (by simp);have f1:=hf (0,[(4,1)]) (by simp);have f2:=hf (28953,[(4,(-1))]) (by simp);have f3:=hf (1,[(6,1)]) (by simp);have f4:=hf (0,[(6,(-1))]) (by simp);have f5:=hf (0,[(10,1)]) (by simp);have f6:=hf (7236,[(10,(-1))]) (by simp);have f7:=hf (0,[(11,1)]) (by simp);have f8:=hf (4,[(11,(-1))]) (by simp);have f9:=hf (0,[(14,1)]) (by simp);have f10:=hf (1,[(17,1)]) (by simp);have f11:=hf (0,[(17,(-1))]) (by simp);have f12:=hf (0,[(20,1)]) (by simp);have f13:=hf (40,[(20,(-1))]) (by simp);have f16:=hf (9223372036854775807,[(2,(-1))]) (by simp);have f17:=hf (9223372036854775807,[(14,(-1))]) (by simp);simp only[lv,evl]at f0 f1 f2 f3 f4 f5 f6 f7 f8 f9 f10 f11 f12 f13 f16 f17;refine⟨?_,.cons (al_conv (.cons (cvInt (by simp only[lv,evl,r2]<;>omega)) (.cons (cvSl (by simp only[lv,evl,r3]<;>omega) l3.symm) (.cons (cvSl (by simp only[lv,evl,r4]<;>omega) l4.symm) (.cons (cvInt (by simp only[lv,evl,r5]<;>omega)) (.cons (cvBool (by simp only[lv,evl,r6]<;>omega)) (.cons (cvSl (by simp only[lv,evl,r7]<;>omega) l7.symm) (.cons (cvSl (by simp only[lv,evl,r8]<;>omega) l8.symm) (.cons (cvInt (by simp only[lv,evl,r9]<;>omega)) (.cons (cvSl (by simp only[lv,evl,r10]<;>omega) l10.symm) (.cons (cvSl (by simp only[lv,evl,r11]<;>omega) l11.symm) (.cons (cvSl (by simp only[lv,evl,r12]<;>omega) l12.symm) (.cons (cvSl (by simp only[lv,evl,r13]<;>omega) l13.symm) (.cons (cvInt (by simp only[lv,evl,r14]<;>omega)) (.cons (cvInt (by simp only[lv,evl,r15]<;>omega)) (.cons (cvInt (by simp only[lv,evl,r16]<;>omega)) (.cons (cvBool (by simp only[lv,evl,r17]<;>omega)) (.cons (cvInt (by simp only[lv,evl,r18]<;>omega)) (.cons (cvSl (by simp only[lv,evl,r19]<;>omega) l19.symm) (.cons (cvSl (by simp only[lv,evl,r20]<;>omega) l20.symm) (.nil)))))))))))))))))))) hd) (.cons (by show G.v (.int .i64 60)=.v (.int .i64 (0+(1*e'.ρ 21+0)));rw[r21];rfl) .nil),⟨_,rfl,.cons (byt_sl h1 (x:=(0,[(0,1)])) (by show 0+(1*e'.ρ 0+0)=_;rw[r0];omega) l0) (.cons (by show G.v (.int .i64 0)=.v (.int .i64 (0+(1*e'.ρ 1+0)));rw[r1];rfl) .nil)⟩,by intro z hz;cases hz⟩;intro x hx;simp only[con9,List.mem_cons,List.not_mem_nil,or_false]at hx;rcases hx with rfl|rfl|rfl|rfl|rfl|rfl|rfl|rfl|rfl|rfl|rfl|rfl|rfl|rfl|rfl|rfl|rfl|rfl|rfl|rfl|rfl|rfl|rfl|rfl|rfl|rfl|rfl|rfl|rfl|rfl|rfl|rfl|rfl|rfl<;>simp only[lv,evl,r0,r1,r2,r3,r4,r5,r6,r7,r8,r9,r10,r11,r12,r13,r14,r15,r16,r17,r18,r19,r20,r21]<;>omega)
  simp only[con9,List.mem_singleton]at ho';subst ho';have hP':=hp' e2 (.refl _ _);have hd':=hP'.d;have hpt':=hP'.ptr 72 _ rfl
  cases d' with
  |one _=>exact hd'.elim
  |tup _=>exact hd'.elim
  |ag gs'=>
   obtain⟨ws',rfl⟩:=pures_v rfl hd';have hlen':ws'.length=19:=by
    have:=Al.len hd';rw[mapsV_eq,List.length_map]at this;exact this.symm
   obtain⟨g0',hH',_⟩:=hpt';obtain⟨o',H2,rfl⟩:∃o H1,H'=o::H1:=by
    cases H' with
    |nil=>cases hH'
    |cons o H1=>exact⟨o,H1,rfl⟩
   refine⟨ws',o',H2,q2,hlen,?_⟩;obtain⟨g,hg1,hg2⟩:=Al.get hd' (i:=17) rfl;rw[mapsV_eq,List.getElem?_map]at hg1;rcases hg2 with⟨_,h3⟩|⟨k',m,rfl,h4,h5⟩
   ·have h3:(3:Int)+0=0:=h3
    omega
   ·have h4:(m:Int)=3+0:=h4
    cases hw:ws'[17]? with
    |none=>rw[hw]at hg1;cases hg1
    |some u=>
     rw[hw]at hg1;injection hg1 with hg1
     injection hg1 with hg1
     subst hg1;obtain⟨fs,h,a,nw,mo,un,hok⟩:=world_ok hlen' hw (by omega) h5;exact⟨_,fs,h,a,nw,mo,un,hok⟩
end Go.Proofs.YtiahijhpjloijaaGreat.V

namespace Go.Proofs.YtiahijhpjloijaaGreat.V
open Go
section
variable{P:Program} {O:Oracle2} {dst:Option Pos} {gd:Option (Pos×Bool)} {r fr:Nat} {tm:Tr GD} {hp:List GO} {l:List (Nat×Ins)} {fs:List Ft2} {Q:GS→List Ft2→Prop}
def FS (P:Program) (O:Oracle2) (l:List (Nat×Ins)) (g:GS) (fs:List Ft2) (Q:GS→List Ft2→Prop):Prop:=∃t fs',gstepsF P O l g fs=some (t,fs')∧Q t fs'
theorem fnil {g:GS} (h:Q g fs):FS P O [] g fs Q:=⟨g,fs,rfl,h⟩
theorem fgo {m:Nat} {x:Ins} {g g1:GS} (h:gstep1 P O x g=some g1) (k:FS P O l g1 (gft x g g1::fs) Q):FS P O ((m,x)::l) g fs Q:=by
 obtain⟨t,fs',h1,h2⟩:=k;exact⟨t,fs',by rw[asgF_cons,h];exact h1,h2⟩
theorem fOf {m:Nat} {x:Ins} {g:GS} {Q0:GS→Prop} (h:∃t,gsteps P O [x] g=some t∧Q0 t) (k:∀t,Q0 t→FS P O l t (gft x g t::fs) Q):FS P O ((m,x)::l) g fs Q:=by
 obtain⟨t,h1,h2⟩:=h;rw[asg_cons]at h1
 split at h1
 ·rename_i g1 h3
  have h1:some g1=some t:=h1
  cases h1
  exact fgo h3 (k _ h2)
 ·cases h1
theorem fStX {m n:Nat} {a x:A} {i o e:Nat} {cs ps ns:List G} (hg:gguard gd tm=.run) (h:gval tm a=some (.one (.loc i o))) (hi:nth hp i=some (.ob e false cs)) (hx:gcells tm x=some ps) (hn:len ps=n) (ho:o+n≤len cs) (hs:splice ps o cs=ns)
 (k:∀hp',Kx i hp hp'→nth hp' i=some (.ob e false ns)→FS P O l ⟨tm,hp'⟩ (gft ⟨none,gd,r,fr,.st n a x⟩ ⟨tm,hp⟩ ⟨tm,hp'⟩::fs) Q):FS P O ((m,⟨none,gd,r,fr,.st n a x⟩)::l) ⟨tm,hp⟩ fs Q:=by
 refine fgo (g1:=⟨tm,setO hp i (.ob e false ns)⟩) ?_ (k _ (fun j o' hj hjo=>nth_set2 hi hjo hj) (nth_set1 hi));unfold gstep1;rw[hg];have h1:Nat.ble (o+n) (len cs)=true:=Nat.ble_eq_true_of_le ho;have h2:Nat.beq (len ps) n=true:=(beq_iff _ _).2 hn;simp only[grd,gcel_v h,hi,hx,h1,h2,hs];rfl
theorem fAlloc {m e:Nat} {zs:List C} {cs:List G} (hg:gguard gd tm=.run) (hz:each cG zs=some cs)
 (k:∀a hp',Kp hp hp'→nth hp' a=some (.ob e false cs)→a=len hp→FS P O l ⟨gput dst (.one (.loc a 0)) tm,hp'⟩ (gft ⟨dst,gd,r,fr,.alloc e zs⟩ ⟨tm,hp⟩ ⟨gput dst (.one (.loc a 0)) tm,hp'⟩::fs) Q):FS P O ((m,⟨dst,gd,r,fr,.alloc e zs⟩)::l) ⟨tm,hp⟩ fs Q:=
 fgo (g1:=⟨gput dst (.one (.loc (len hp) 0)) tm,gnew hp e cs⟩) (by unfold gstep1;rw[hg];simp only[grd,hz]) (k _ _ .new nth_new rfl)
theorem fCall {m f:Nat} {xs:List A} {ds:List GD} {u:U} {G:List GO} (hg:gguard gd tm=.run) (h:each (gval tm) xs=some ds) (hd:Pu ds) (hO:O f ds []=some (.one (.v u),G))
 (k:∀hp',Kp hp hp'→FS P O l ⟨gput dst (.one (.v u)) tm,hp'⟩ (gft ⟨dst,gd,r,fr,.call f xs⟩ ⟨tm,hp⟩ ⟨gput dst (.one (.v u)) tm,hp'⟩::fs) Q):FS P O ((m,⟨dst,gd,r,fr,.call f xs⟩)::l) ⟨tm,hp⟩ fs Q:=by
 refine fOf (Q0:=fun t=>∃hp',t=⟨gput dst (.one (.v u)) tm,hp'⟩∧Kp hp hp') (cCall hg h hd hO (fun hp' m=>gnil ⟨hp',rfl,m⟩)) ?_
 rintro _ ⟨hp',rfl,m⟩
 exact k hp' m
theorem fCallA {m f:Nat} {xs:List A} {ds:List GD} {us:List U} {G:List GO} (hg:gguard gd tm=.run) (h:each (gval tm) xs=some ds) (hd:Pu ds) (hO:O f ds []=some (.ag (mapsV us),G))
 (k:∀hp',Kp hp hp'→FS P O l ⟨gput dst (.ag (mapsV us)) tm,hp'⟩ (gft ⟨dst,gd,r,fr,.call f xs⟩ ⟨tm,hp⟩ ⟨gput dst (.ag (mapsV us)) tm,hp'⟩::fs) Q):FS P O ((m,⟨dst,gd,r,fr,.call f xs⟩)::l) ⟨tm,hp⟩ fs Q:=by
 refine fOf (Q0:=fun t=>∃hp',t=⟨gput dst (.ag (mapsV us)) tm,hp'⟩∧Kp hp hp') (cCallA hg h hd hO (fun hp' m=>gnil ⟨hp',rfl,m⟩)) ?_
 rintro _ ⟨hp',rfl,m⟩
 exact k hp' m
theorem wDblkF {n na:Nat} {l:List (Nat×Ins)} {edges:List (Nat×Nat)} {g:GS} {Q:GOut→Prop} (h:FS P O l g [] (fun t fs=>gokF t.hp fs (len l) edges=true∧Q (.norm t))):Wp P O n (.dblk na l edges) g Q:=by
 obtain⟨t,fs,h1,h2,h3⟩:=h;have hs:gev P O n (.dblk na l edges) g=(match gstepsF P O l g []with
  |some (s',fs)=>(Bool.rec .no (.norm s') (gokF s'.hp fs (len l) edges):GOut)
  |none=>.no):=rfl
 unfold Wp;rw[hs,h1];simp only[h2];exact h3
theorem gft_ld {k:Nat} {ag:Bool} {x:A} {i off:Nat} {g g':GS} (hg:gguard gd g.tm=.run) (h:gval g.tm x=some (.one (.loc i off))):gft ⟨dst,gd,r,fr,.ld k ag x⟩ g g'=.acc [(false,some i,some (off,k))]:=by
 unfold gft;simp only[hg];unfold gfoot;simp only[gcel_v h]
theorem gft_call {f:Nat} {xs:List A} {ds:List GD} {g g':GS} (hg:gguard gd g.tm=.run) (h:each (gval g.tm) xs=some ds):gft ⟨dst,gd,r,fr,.call f xs⟩ g g'=.call g.hp (len g'.hp) (gptr ds):=by
 unfold gft;simp only[hg,h]
theorem gokF_cons {hp:List GO} {fs:List Ft2} {n:Nat} {p:Nat×Nat} {chk:List (Nat×Nat)} {x y:Ft2} (hx:nth fs (n-1-p.1)=some x) (hy:nth fs (n-1-p.2)=some y) (ho:(Bool.rec false (Nat.ble (Nat.succ p.1) p.2) (Nat.ble (Nat.succ p.2) n):Bool)=true) (hc:gclashes hp x y=false) (h:gokF hp fs n chk=true):gokF hp fs n (p::chk)=true:=by
 have h0:gokF hp fs n (p::chk)=(match nth fs (n-1-p.1),nth fs (n-1-p.2)with
  |some x,some y=>Bool.rec (gokF hp fs n chk) false (Bool.rec true (gclashes hp x y) (Bool.rec false (Nat.ble (Nat.succ p.1) p.2) (Nat.ble (Nat.succ p.2) n)))
  |_,_=>false):=rfl
 rw[h0,hx,hy];simp only[ho,hc,h]
theorem any_one {α:Type} (f:α→Bool) (x:α):any f [x]=f x:=by
 show(Bool.rec false true (f x):Bool)=_
 cases f x<;>rfl
theorem gcl_ld_new {hp:List GO} {i n:Nat} {z:Nat×Nat} {b:Bool} (h:i≠n):gclashes hp (.acc [(false,some i,some z)]) (.acc (gnewE n b))=false:=by
 cases b
 ·rfl
 ·have hb:Nat.beq i n=false:=by
   cases hb:Nat.beq i n with
   |false=>rfl
   |true=>exact absurd ((beq_iff _ _).1 hb) h
  have hc:gclash hp (false,some i,some z) (true,some n,none)=false:=by
   show(Bool.rec false (Bool.rec false (Bool.rec true false (apartR (some z) none)) (Nat.beq i n)) (Bool.rec true true false):Bool)=_;rw[hb]
  show any (fun x=>any (fun y=>gclash hp x y) [(true,some n,none)]) [(false,some i,some z)]=false;simp only[any_one,hc]
theorem gcl_new_new {hp:List GO} {i n:Nat} {b c:Bool} (h:i≠n):gclashes hp (.acc (gnewE i b)) (.acc (gnewE n c))=false:=by
 cases b
 ·rfl
 ·cases c
  ·rfl
  ·have hb:Nat.beq i n=false:=by
    cases hb:Nat.beq i n with
    |false=>rfl
    |true=>exact absurd ((beq_iff _ _).1 hb) h
   have hc:gclash hp (true,some i,none) (true,some n,none)=false:=by
    show(Bool.rec false (Bool.rec false (Bool.rec true false (apartR none none)) (Nat.beq i n)) (Bool.rec true true true):Bool)=_;rw[hb]
   show any (fun x=>any (fun y=>gclash hp x y) [(true,some n,none)]) [(true,some i,none)]=false;simp only[any_one,hc]
theorem gcl_call_new {hp h0:List GO} {n1 n:Nat} {pt:Option Nat} {b:Bool}:gclashes hp (.call h0 n1 pt) (.acc (gnewE n b))=false:=by cases b<;>rfl
theorem gcl_ld_call {hp h0:List GO} {i n1 e:Nat} {f:Bool} {cs:List G} {z:Nat×Nat} (h:nth h0 i=some (.ob e f cs)):gclashes hp (.acc [(false,some i,some z)]) (.call h0 n1 none)=false:=by
 have h1:oob h0 i=true:=by unfold oob;rw[h]
 have h2:Nat.ble (Nat.succ i) (len h0)=true:=by
  rw[nth_eq]at h;rw[len_eq];exact Nat.ble_eq_true_of_le (lt_of_get h)
 have h3:gleave true h0 n1 none (false,some i,some z)=true:=by
  show(Bool.rec _ true (Bool.rec false (Bool.rec false (ptrNe none i) (oob h0 i)) (Nat.ble (Nat.succ i) (len h0))):Bool)=_;rw[h1,h2];rfl
 show(Bool.rec true false (all (gleave true h0 n1 none) [(false,some i,some z)]):Bool)=false;have h4:all (gleave true h0 n1 none) [(false,some i,some z)]=true:=by
  show(Bool.rec false true (gleave true h0 n1 none (false,some i,some z)):Bool)=_;rw[h3]
 rw[h4]
theorem ne_len {hp:List GO} {i:Nat} {o:GO} (h:nth hp i=some o):i≠len hp:=by
 rw[nth_eq]at h;have:=lt_of_get h;rw[len_eq];omega
section
variable{hp:List GO} {g g' h h':GS} {da db:Option Pos} {ga gb:Option (Pos×Bool)} {ra rb fa fb:Nat}
theorem eLA {k:Nat} {ag:Bool} {x:A} {i off e:Nat} {zs:List C} {o:GO} (hg:gguard ga g.tm=.run) (hx:gval g.tm x=some (.one (.loc i off))) (hi:nth h.hp i=some o):gclashes hp (gft ⟨da,ga,ra,fa,.ld k ag x⟩ g g') (gft ⟨db,none,rb,fb,.alloc e zs⟩ h h')=false:=by
 rw[gft_ld hg hx];exact gcl_ld_new (ne_len hi)
theorem eCA {f e:Nat} {xs:List A} {ds:List GD} {zs:List C} (hg:gguard ga g.tm=.run) (hx:each (gval g.tm) xs=some ds):gclashes hp (gft ⟨da,ga,ra,fa,.call f xs⟩ g g') (gft ⟨db,none,rb,fb,.alloc e zs⟩ h h')=false:=by
 rw[gft_call hg hx];exact gcl_call_new
theorem eAA {e e' a:Nat} {zs zs':List C} {o:GO} (ha:a=len g.hp) (hi:nth h.hp a=some o):gclashes hp (gft ⟨da,none,ra,fa,.alloc e zs⟩ g g') (gft ⟨db,none,rb,fb,.alloc e' zs'⟩ h h')=false:=
 gcl_new_new (ha▸ne_len hi)
theorem eLC {k f:Nat} {ag:Bool} {x:A} {xs:List A} {ds:List GD} {i off e:Nat} {fz:Bool} {cs:List G} (hg:gguard ga g.tm=.run) (hx:gval g.tm x=some (.one (.loc i off))) (hgb:gguard gb h.tm=.run) (hy:each (gval h.tm) xs=some ds) (hd:gptr ds=none) (hi:nth h.hp i=some (.ob e fz cs)):gclashes hp (gft ⟨da,ga,ra,fa,.ld k ag x⟩ g g') (gft ⟨db,gb,rb,fb,.call f xs⟩ h h')=false:=by
 rw[gft_ld hg hx,gft_call hgb hy,hd];exact gcl_ld_call hi
end
theorem sLenB {P:Program} {O:Oracle2} {dst:Option Pos} {gd:Option (Pos×Bool)} {r fr:Nat} {tm:Tr GD} {hp:List GO} {x:A} {u:U} {n:Nat} (hg:gguard gd tm=.run) (h:gval tm x=some (.one (.v u))) (hb:Byt u n):gstep1 P O ⟨dst,gd,r,fr,.len false x⟩ ⟨tm,hp⟩=some ⟨gput dst (.one (.v (.int .i64 (.ofNat n)))) tm,hp⟩:=by
 rcases hb with⟨rfl,rfl⟩|⟨k,l,rfl,_⟩
 ·exact sLenN hg h
 ·exact sLenF hg h
theorem sBeq {P:Program} {O:Oracle2} {dst:Option Pos} {gd:Option (Pos×Bool)} {r fr:Nat} {tm:Tr GD} {hp:List GO} {x y:A} {b:Bool} (hg:gguard gd tm=.run) (h:gval tm x=some (.one (.v (.bool b)))) (k:gval tm y=some (.one (.v (.bool b)))):gstep1 P O ⟨dst,gd,r,fr,.beq x y⟩ ⟨tm,hp⟩=some ⟨gput dst (.one (.v (.bool true))) tm,hp⟩:=by
 unfold gstep1;rw[hg];simp only[grd,gsc_v h rfl,gsc_v k rfl]
 cases b<;>rfl
theorem gtrB {n m:Nat}:cbin .gtr (.int .i64 (.ofNat n)) (.int .i64 (.ofNat m))=some (.bool (decide (m<n))):=by
 show some (C.bool (ilt (.ofNat m) (.ofNat n)))=_;rw[ilt_nat]
end
end Go.Proofs.YtiahijhpjloijaaGreat.V

namespace Go.Proofs.YtiahijhpjloijaaGreat.V
open Go
theorem law3_a {up um:U} {np nm:Nat} {ra0 ra1 ra2 ra3 rb0 rb1 rb2 rb3:U} {P:Program} {O:Oracle2} {m:Nat} {G7:List GO} (hbp:Byt up np) (hbm:Byt um nm) (q7:O 7 [] []=some (.one (.v (.bool true)),G7)) (hc:30<np):∃H,gbody P O m false b3 [.one (.v up),.one (.v um),.ag (mapsV [ra0,ra1,ra2,ra3]),.ag (mapsV [rb0,rb1,rb2,rb3])] []=some (.one (.v (.bool true)),H):=by
 refine wBodyE (tm:=(gput (some p3) (.ag (mapsV [rb0,rb1,rb2,rb3])) (gput (some p2) (.ag (mapsV [ra0,ra1,ra2,ra3])) (gput (some p1) (.one (.v um)) (gput (some p0) (.one (.v up)) .e))))) rfl (wSeq (wBlk (cBox rfl rfl rfl ?_)));intro ax1 hpx2 mx3 wx4;refine cBox rfl rfl rfl ?_;intro ax5 hpx6 mx7 wx8;replace wx4:=mx7 _ _ wx4;refine ggo (sMv rfl rfl) (gnil (nNorm (wSeq (wSeq (wBlk (cCall (ds:=[]) rfl rfl .nil (q7) ?_))))));intro hpx9 mx10;replace wx4:=mx10 _ _ wx4;replace wx8:=mx10 _ _ wx8;refine ggo (sNot rfl rfl) (gnil (nNorm (wCond (t:=false) rfl (wSkip (nNorm (wSeq (wSeq (wBlk (ggo (sMv rfl rfl) (ggo (sLenB rfl rfl hbp) (ggo (sBin (c:=.bool true) rfl rfl rfl rfl rfl (gtrB.trans (by rw[decide_eq_true hc])) rfl) ?_)))))))))));refine ggo (sMv rfl rfl) (ggo (sSkip (gskip rfl)) (ggo (sSkip (gskip rfl)) (ggo (sSkip (gskip rfl)) (ggo (sPick (d:=.one (.v (.bool true))) rfl rfl rfl) (gnil (nNorm (wCond (t:=true) rfl (wSeq (wBlk (ggo (sMv rfl rfl) (gnil ?_)))))))))));refine nNorm (wRet (nRet ?_));exact⟨_,.inl rfl,_,gends_tmp rfl⟩
theorem law3_b {up um:U} {np nm:Nat} {ra0 ra1 ra2 ra3 rb0 rb1 rb2 rb3:U} {P:Program} {O:Oracle2} {m:Nat} {G7:List GO} (hbp:Byt up np) (hbm:Byt um nm) (q7:O 7 [] []=some (.one (.v (.bool true)),G7)) (hc:¬30<np) (hd:250<nm):∃H,gbody P O m false b3 [.one (.v up),.one (.v um),.ag (mapsV [ra0,ra1,ra2,ra3]),.ag (mapsV [rb0,rb1,rb2,rb3])] []=some (.one (.v (.bool true)),H):=by
 refine wBodyE (tm:=(gput (some p3) (.ag (mapsV [rb0,rb1,rb2,rb3])) (gput (some p2) (.ag (mapsV [ra0,ra1,ra2,ra3])) (gput (some p1) (.one (.v um)) (gput (some p0) (.one (.v up)) .e))))) rfl (wSeq (wBlk (cBox rfl rfl rfl ?_)));intro ax1 hpx2 mx3 wx4;refine cBox rfl rfl rfl ?_;intro ax5 hpx6 mx7 wx8;replace wx4:=mx7 _ _ wx4;refine ggo (sMv rfl rfl) (gnil (nNorm (wSeq (wSeq (wBlk (cCall (ds:=[]) rfl rfl .nil (q7) ?_))))));intro hpx9 mx10;replace wx4:=mx10 _ _ wx4;replace wx8:=mx10 _ _ wx8;refine ggo (sNot rfl rfl) (gnil (nNorm (wCond (t:=false) rfl (wSkip (nNorm (wSeq (wSeq (wBlk (ggo (sMv rfl rfl) (ggo (sLenB rfl rfl hbp) (ggo (sBin (c:=.bool false) rfl rfl rfl rfl rfl (gtrB.trans (by rw[decide_eq_false hc])) rfl) ?_)))))))))));refine ggo (sMv rfl rfl) (ggo (sMv (grun rfl) rfl) (ggo (sLenB (grun rfl) rfl hbm) (ggo (sBin (c:=.bool true) (grun rfl) rfl rfl rfl rfl (gtrB.trans (by rw[decide_eq_true hd])) rfl) (ggo (sPick (d:=.one (.v (.bool true))) rfl rfl rfl) (gnil (nNorm (wCond (t:=true) rfl (wSeq (wBlk (ggo (sMv rfl rfl) (gnil ?_)))))))))));refine nNorm (wRet (nRet ?_));exact⟨_,.inl rfl,_,gends_tmp rfl⟩
theorem law3_c {up um:U} {np nm:Nat} {ra0 ra1 ra2 ra3 rb0 rb1 rb2 rb3:U} {P:Program} {O:Oracle2} {m:Nat} {G7:List GO} {um2 up2:U} {ws wt:List U} {im ip:Nat} {Hm Hp H10 H9 G11 G12 G13 G14 G15 G16 G17:List GO} {o10 o9:GO} {c0 c1 c2 c3 d0 d1 d2 d3:U} {sab:Bool} (hbp:Byt up np) (hbm:Byt um nm) (q7:O 7 [] []=some (.one (.v (.bool true)),G7)) (hc:¬30<np) (hd:¬250<nm) (q8m:O 8 [.one (.v um)] []=some (.one (.loc im 0),Hm)) (wm:nth Hm im=some (.ob 72 false (mapsV [um2,.int .i64 0]))) (q8p:O 8 [.one (.v up)] []=some (.one (.loc ip 0),Hp)) (wp:nth Hp ip=some (.ob 72 false (mapsV [up2,.int .i64 0]))) (q10:O 10 [.one (.loc 0 0)] [.ob 72 false (mapsV [up2,.int .i64 0])]=some (.ag (mapsV ws),o10::H10)) (q9:O 9 [.one (.loc 0 0),.ag (mapsV ws),.one (.v (.int .i64 60))] [.ob 72 false (mapsV [um2,.int .i64 0])]=some (.ag (mapsV wt),o9::H9)) (hws:ws.length=19) (hwt:wt.length=19) (q11:O 11 [.ag (mapsV wt)] []=some (.ag (mapsV [c0,c1,c2,c3]),G11)) (q12:O 12 [.ag (mapsV wt)] []=some (.ag (mapsV [d0,d1,d2,d3]),G12)) (q13:O 13 [.ag (mapsV [c0,c1,c2,c3]),.ag (mapsV [d0,d1,d2,d3])] []=some (.one (.v (.bool true)),G13)) (q14:O 14 [.ag (mapsV [c0,c1,c2,c3]),.ag (mapsV [d0,d1,d2,d3])] []=some (.one (.v (.bool true)),G14)) (q13s:O 13 [.ag (mapsV [ra0,ra1,ra2,ra3]),.ag (mapsV [rb0,rb1,rb2,rb3])] []=some (.one (.v (.bool sab)),G15)) (q14s:O 14 [.ag (mapsV [ra0,ra1,ra2,ra3]),.ag (mapsV [rb0,rb1,rb2,rb3])] []=some (.one (.v (.bool sab)),G16)) (q14a:O 14 [.ag (mapsV [ra0,ra1,ra2,ra3]),.ag (mapsV [ra0,ra1,ra2,ra3])] []=some (.one (.v (.bool true)),G17)):∃H,gbody P O m false b3 [.one (.v up),.one (.v um),.ag (mapsV [ra0,ra1,ra2,ra3]),.ag (mapsV [rb0,rb1,rb2,rb3])] []=some (.one (.v (.bool true)),H):=by
 refine wBodyE (tm:=(gput (some p3) (.ag (mapsV [rb0,rb1,rb2,rb3])) (gput (some p2) (.ag (mapsV [ra0,ra1,ra2,ra3])) (gput (some p1) (.one (.v um)) (gput (some p0) (.one (.v up)) .e))))) rfl (wSeq (wBlk (cBox rfl rfl rfl ?_)));intro ax1 hpx2 mx3 wx4;refine cBox rfl rfl rfl ?_;intro ax5 hpx6 mx7 wx8;replace wx4:=mx7 _ _ wx4;refine ggo (sMv rfl rfl) (gnil (nNorm (wSeq (wSeq (wBlk (cCall (ds:=[]) rfl rfl .nil (q7) ?_))))));intro hpx9 mx10;replace wx4:=mx10 _ _ wx4;replace wx8:=mx10 _ _ wx8;refine ggo (sNot rfl rfl) (gnil (nNorm (wCond (t:=false) rfl (wSkip (nNorm (wSeq (wSeq (wBlk (ggo (sMv rfl rfl) (ggo (sLenB rfl rfl hbp) (ggo (sBin (c:=.bool false) rfl rfl rfl rfl rfl (gtrB.trans (by rw[decide_eq_false hc])) rfl) ?_)))))))))));refine ggo (sMv rfl rfl) (ggo (sMv (grun rfl) rfl) (ggo (sLenB (grun rfl) rfl hbm) (ggo (sBin (c:=.bool false) (grun rfl) rfl rfl rfl rfl (gtrB.trans (by rw[decide_eq_false hd])) rfl) (ggo (sPick (d:=.one (.v (.bool false))) rfl rfl rfl) (gnil (nNorm (wCond (t:=false) rfl (wSkip (nNorm (wSeq (wBlk ?_)))))))))));refine ggo (sMv rfl rfl) (cCallM (ds:=[.one (.v um)]) rfl (args1 (rfl)) (.one .nil) q8m wm ?_);intro ax11 hpx12 mx13 fx14 wx15;have nax1_ax11:=fx14 _ _ wx4;have nax5_ax11:=fx14 _ _ wx8;replace wx4:=mx13 _ _ wx4;replace wx8:=mx13 _ _ wx8;refine ggo (sMv rfl rfl) (cCallM (ds:=[.one (.v up)]) rfl (args1 (rfl)) (.one .nil) q8p wp ?_);intro ax16 hpx17 mx18 fx19 wx20;have nax1_ax16:=fx19 _ _ wx4;have nax5_ax16:=fx19 _ _ wx8;have nax11_ax16:=fx19 _ _ wx15;replace wx4:=mx18 _ _ wx4;replace wx8:=mx18 _ _ wx8;replace wx15:=mx18 _ _ wx15;refine cCallP rfl (args1 (rfl)) wx20 .nil q10 ?_;intro hpx21 mx22;replace wx4:=mx22 _ _ (nax1_ax16) wx4;replace wx8:=mx22 _ _ (nax5_ax16) wx8;replace wx15:=mx22 _ _ (nax11_ax16) wx15;refine cCallP rfl (args3 (rfl) (rfl) (rfl)) wx15 (.ag (.one .nil)) q9 ?_;intro hpx23 mx24;replace wx4:=mx24 _ _ (nax1_ax11) wx4;replace wx8:=mx24 _ _ (nax5_ax11) wx8;refine cAlloc (cs:=mapsV [.int .i64 (0),.nil,.nil,.int .i64 (0),.bool false,.nil,.nil,.int .i64 (0),.nil,.nil,.nil,.nil,.int .i64 (0),.int .i64 (0),.int .i64 (0),.bool false,.int .i64 (0),.nil,.nil]) rfl rfl ?_;intro ax25 hpx26 mx27 wx28;replace wx4:=mx27 _ _ wx4;replace wx8:=mx27 _ _ wx8;refine cSt (ns:=mapsV wt) rfl rfl wx28 (gcells_ag rfl) (len_mapsV hwt) (Nat.le_of_ble_eq_true rfl) (splice_all (by rw[←len_eq,len_mapsV hwt];rfl)) ?_;intro hpx29 mx30 wx31;replace wx4:=mx30 _ _ _ _ (by decide) wx4;replace wx8:=mx30 _ _ _ _ (by decide) wx8;refine gnil (nNorm (wSeq (wDblkF (fgo (sLdO rfl rfl wx31 (ldVall hwt) (len_mapsV hwt) rfl) (fgo (sLdO rfl rfl wx31 (ldVall hwt) (len_mapsV hwt) rfl) ?_)))));have zq2_ax1:=wx4;have zq2_ax5:=wx8;have zq2_ax25:=wx31;refine fCallA (ds:=[.ag (mapsV wt)]) rfl (args1 (rfl)) (.ag .nil) (q11) ?_;intro hpx32 mx33;replace wx4:=mx33 _ _ wx4;replace wx8:=mx33 _ _ wx8;replace wx31:=mx33 _ _ wx31;refine fCallA (ds:=[.ag (mapsV wt)]) rfl (args1 (rfl)) (.ag .nil) (q12) ?_;intro hpx34 mx35;replace wx4:=mx35 _ _ wx4;replace wx8:=mx35 _ _ wx8;replace wx31:=mx35 _ _ wx31;have zq4_ax1:=wx4;have zq4_ax5:=wx8;have zq4_ax25:=wx31;refine fAlloc (cs:=mapsV [.flt 0,.flt 0,.flt 0,.flt 0]) rfl rfl ?_;intro ax36 hpx37 mx38 wx39 qx40;have nax1_ax36:ax1≠ax36:=by rw[qx40];exact ne_len wx4
 have nax5_ax36:ax5≠ax36:=by rw[qx40];exact ne_len wx8
 have nax25_ax36:ax25≠ax36:=by rw[qx40];exact ne_len wx31
 replace wx4:=mx38 _ _ wx4;replace wx8:=mx38 _ _ wx8;replace wx31:=mx38 _ _ wx31;have zq5_ax1:=wx4;have zq5_ax5:=wx8;have zq5_ax25:=wx31;have zq5_ax36:=wx39;refine fAlloc (cs:=mapsV [.flt 0,.flt 0,.flt 0,.flt 0]) rfl rfl ?_;intro ax41 hpx42 mx43 wx44 qx45;have nax1_ax41:ax1≠ax41:=by rw[qx45];exact ne_len wx4
 have nax5_ax41:ax5≠ax41:=by rw[qx45];exact ne_len wx8
 have nax25_ax41:ax25≠ax41:=by rw[qx45];exact ne_len wx31
 have nax36_ax41:ax36≠ax41:=by rw[qx45];exact ne_len wx39
 replace wx4:=mx43 _ _ wx4;replace wx8:=mx43 _ _ wx8;replace wx31:=mx43 _ _ wx31;replace wx39:=mx43 _ _ wx39;refine fStX (ns:=mapsV [c0,c1,c2,c3]) rfl rfl wx39 (gcells_ag rfl) rfl (Nat.le_of_ble_eq_true rfl) rfl ?_;intro hpx46 mx47 wx48;replace wx4:=mx47 _ _ (nax1_ax36) wx4;replace wx8:=mx47 _ _ (nax5_ax36) wx8;replace wx31:=mx47 _ _ (nax25_ax36) wx31;replace wx44:=mx47 _ _ (nax36_ax41.symm) wx44;refine fStX (ns:=mapsV [d0,d1,d2,d3]) rfl rfl wx44 (gcells_ag rfl) rfl (Nat.le_of_ble_eq_true rfl) rfl ?_;intro hpx49 mx50 wx51;replace wx4:=mx50 _ _ (nax1_ax41) wx4;replace wx8:=mx50 _ _ (nax5_ax41) wx8;replace wx31:=mx50 _ _ (nax25_ax41) wx31;replace wx48:=mx50 _ _ (nax36_ax41) wx48;refine fnil ⟨?_,?_⟩
 ·refine gokF_cons (x:=_) (y:=_) rfl rfl rfl ?_ ?_
  ·exact eLC rfl rfl rfl (args1 (rfl)) rfl zq2_ax25
  refine gokF_cons (x:=_) (y:=_) rfl rfl rfl ?_ ?_
  ·exact eLA rfl rfl zq4_ax25
  refine gokF_cons (x:=_) (y:=_) rfl rfl rfl ?_ ?_
  ·exact eLA rfl rfl zq4_ax25
  refine gokF_cons (x:=_) (y:=_) rfl rfl rfl ?_ ?_
  ·exact eCA rfl (args1 (rfl))
  refine gokF_cons (x:=_) (y:=_) rfl rfl rfl ?_ ?_
  ·exact eCA rfl (args1 (rfl))
  refine gokF_cons (x:=_) (y:=_) rfl rfl rfl ?_ ?_
  ·exact eLA rfl rfl zq5_ax25
  refine gokF_cons (x:=_) (y:=_) rfl rfl rfl ?_ ?_
  ·exact eLA rfl rfl zq5_ax25
  refine gokF_cons (x:=_) (y:=_) rfl rfl rfl ?_ ?_
  ·exact eCA rfl (args1 (rfl))
  refine gokF_cons (x:=_) (y:=_) rfl rfl rfl ?_ ?_
  ·exact eCA rfl (args1 (rfl))
  refine gokF_cons (x:=_) (y:=_) rfl rfl rfl ?_ ?_
  ·exact eAA qx40 zq5_ax36
  rfl
 refine nNorm (wSeq (wDblkF (fgo (sLdO rfl rfl wx48 rfl rfl rfl) (fgo (sLdO rfl rfl wx51 rfl rfl rfl) (fCall (ds:=[.ag (mapsV [c0,c1,c2,c3]),.ag (mapsV [d0,d1,d2,d3])]) rfl (args2 (rfl) (rfl)) (.ag (.ag .nil)) (q13) ?_)))));intro hpx52 mx53;replace wx4:=mx53 _ _ wx4;replace wx8:=mx53 _ _ wx8;replace wx31:=mx53 _ _ wx31;replace wx48:=mx53 _ _ wx48;replace wx51:=mx53 _ _ wx51;refine fgo (sMv rfl rfl) (fgo (sLdO (grun rfl) rfl wx4 rfl rfl rfl) (fgo (sLdO (grun rfl) rfl wx8 rfl rfl rfl) (fgo (sLdO (grun rfl) rfl wx4 rfl rfl rfl) (fgo (sLdO (grun rfl) rfl wx8 rfl rfl rfl) ?_))));have zq8_ax1:=wx4;have zq8_ax5:=wx8;have zq8_ax25:=wx31;have zq8_ax36:=wx48;have zq8_ax41:=wx51;refine fCall (ds:=[.ag (mapsV [ra0,ra1,ra2,ra3]),.ag (mapsV [rb0,rb1,rb2,rb3])]) (grun rfl) (args2 (rfl) (rfl)) (.ag (.ag .nil)) (q14s) ?_;intro hpx54 mx55;replace wx4:=mx55 _ _ wx4;replace wx8:=mx55 _ _ wx8;replace wx31:=mx55 _ _ wx31;replace wx48:=mx55 _ _ wx48;replace wx51:=mx55 _ _ wx51;refine fCall (ds:=[.ag (mapsV [ra0,ra1,ra2,ra3]),.ag (mapsV [rb0,rb1,rb2,rb3])]) (grun rfl) (args2 (rfl) (rfl)) (.ag (.ag .nil)) (q13s) ?_;intro hpx56 mx57;replace wx4:=mx57 _ _ wx4;replace wx8:=mx57 _ _ wx8;replace wx31:=mx57 _ _ wx31;replace wx48:=mx57 _ _ wx48;replace wx51:=mx57 _ _ wx51;refine fgo (sBeq (grun rfl) rfl rfl) (fgo (sPick (d:=.one (.v (.bool true))) rfl rfl rfl) (fgo (sMv rfl rfl) (fgo (sLdO (grun rfl) rfl wx48 rfl rfl rfl) (fgo (sLdO (grun rfl) rfl wx51 rfl rfl rfl) (fCall (ds:=[.ag (mapsV [c0,c1,c2,c3]),.ag (mapsV [d0,d1,d2,d3])]) (grun rfl) (args2 (rfl) (rfl)) (.ag (.ag .nil)) (q14) ?_)))));intro hpx58 mx59;replace wx4:=mx59 _ _ wx4;replace wx8:=mx59 _ _ wx8;replace wx31:=mx59 _ _ wx31;replace wx48:=mx59 _ _ wx48;replace wx51:=mx59 _ _ wx51;refine fgo (sPick (d:=.one (.v (.bool true))) rfl rfl rfl) (fgo (sMv rfl rfl) (fgo (sLdO (grun rfl) rfl wx4 rfl rfl rfl) (fgo (sLdO (grun rfl) rfl wx4 rfl rfl rfl) (fCall (ds:=[.ag (mapsV [ra0,ra1,ra2,ra3]),.ag (mapsV [ra0,ra1,ra2,ra3])]) (grun rfl) (args2 (rfl) (rfl)) (.ag (.ag .nil)) (q14a) ?_))));intro hpx60 mx61;replace wx4:=mx61 _ _ wx4;replace wx8:=mx61 _ _ wx8;replace wx31:=mx61 _ _ wx31;replace wx48:=mx61 _ _ wx48;replace wx51:=mx61 _ _ wx51;refine fgo (sPick (d:=.one (.v (.bool true))) rfl rfl rfl) (fgo (sMv rfl rfl) ?_);refine fnil ⟨?_,?_⟩
 ·refine gokF_cons (x:=_) (y:=_) rfl rfl rfl ?_ ?_
  ·exact eLC (grun rfl) rfl (grun rfl) (args2 (rfl) (rfl)) rfl zq8_ax1
  refine gokF_cons (x:=_) (y:=_) rfl rfl rfl ?_ ?_
  ·exact eLC (grun rfl) rfl (grun rfl) (args2 (rfl) (rfl)) rfl zq8_ax5
  rfl
 refine nNorm (wRet ?_);exact⟨_,.inl rfl,_,gends_tmp rfl⟩
end Go.Proofs.YtiahijhpjloijaaGreat.V

namespace Go.Proofs.YtiahijhpjloijaaGreat.V
open Go Go.RowKit
noncomputable def yesR (r:Option (D×Tr Ob×Pos)):Bool:=match r with|some (.one (.bool true),_,_)=>true|_=>false
theorem begun_yes:yesR (D2 kxs 7 [] .e .h)=true:=by kernel_rfl
noncomputable def K7:Oracle:=subO 3 (D2 kxs)
theorem subO_bool {O:Oracle} {f:Nat} {b:Bool} {h2:Tr Ob} {n2:Pos} (h:O f [] .e .h=some (.one (.bool b),h2,n2)) (hp:Tr Ob) (nx:Pos):subO 3 O f [] hp nx=some (.one (.bool b),hp,nx):=by
 have h0:subO 3 O f [] hp nx=(match O f [] .e .h with
  |some (d,h2,_)=>match lay 3 .e nx d h2 with
   |some (d',ne,nx')=>
    (match renD (up ne .e) d with
    |some d''=>Bool.rec none (some (d',hb ne hp,nx'))
     (Bool.rec false (Bool.rec false (all (okNew hp h2 .e (up ne .e) (dn ne .e)) ne) (all (okSt h2) [])) (sameD d'' d'))
    |none=>none)
   |none=>none
  |none=>none):=rfl
 rw[h0,h]
 cases b<;>rfl
theorem k7_yes (hp:Tr Ob) (nx:Pos):K7 7 [] hp nx=some (.one (.bool true),hp,nx):=by
 have h:=begun_yes;unfold yesR at h
 split at h
 ·rename_i h2 n2 hr
  exact subO_bool hr hp nx
 ·cases h
noncomputable def O1 (n:Nat):Oracle:=fun f ds hp nx=>Bool.rec (DD n f ds hp nx) (K7 f ds hp nx) (Nat.beq f 7)
noncomputable def O2 (n:Nat):Oracle2:=fun f ds H=>Bool.rec (GDD n f ds H) (match ds,H with|[],[]=>some (.one (.v (.bool true)),[])|_,_=>none) (Nat.beq f 7)
theorem K7_good:Good Tryz.prog K7:=subO_good (D2_good kxs_ok) _
theorem O1_good (n:Nat):Good Tryz.prog (O1 n):=by
 intro f ds hp nx d hp' nx' h;unfold O1 at h;rw[brec']at h
 split at h
 ·exact K7_good f ds hp nx d hp' nx' h
 ·exact DD_good n f ds hp nx d hp' nx' h
theorem DD_fr (n:Nat):Fr (DD n):=(den_good mixed F1_fits X1_good FUEL n).2
theorem O1_fr (n:Nat):Fr (O1 n):=by
 intro f ds hp nx d hp' nx' h;unfold O1 at h⊢;rw[brec']at h
 split at h
 ·rename_i hf
  obtain⟨k1,k2⟩:=subO_fr (O:=D2 kxs) 3 f ds hp nx d hp' nx' h;exact⟨k1,fun id e cs hn=>by rw[brec',if_pos hf];exact k2 id e cs hn⟩
 ·rename_i hf
  obtain⟨k1,k2⟩:=DD_fr n f ds hp nx d hp' nx' h;exact⟨k1,fun id e cs hn=>by rw[brec',if_neg hf];exact k2 id e cs hn⟩
theorem O2_good (n:Nat):Good2 (O2 n) (O1 n):=by
 intro f ds H d H' h E hp nx Ds hH ha hl;unfold O2 at h;unfold O1;rw[brec']at h⊢
 split at h
 ·rename_i hf
  rw[if_pos hf];have hf:=(beq_iff _ _).1 hf;subst hf
  split at h
  ·cases h
   cases ha
   exact⟨_,hp,nx,E,k7_yes hp nx,(by show RU _ _ _ _;rw[RU]),hH,.refl _ _ _,hl,Nat.le_refl _⟩
  ·cases h
 ·rename_i hf
  rw[if_neg hf];exact GDD_good n f ds H d H' h E hp nx Ds hH ha hl
theorem o2_eq {f:Nat} (h:Nat.beq f 7=false) (n:Nat) (ds:List GD) (H:List GO):O2 n f ds H=GDD n f ds H:=by
 unfold O2;rw[h]
theorem law3 {up um:U} {np nm:Nat} (hbp:Byt up np) (hbm:Byt um nm) {a0 a1 a2 a3 b0' b1' b2' b3':Nat} (ha:a0<18446744073709551616∧a1<18446744073709551616∧a2<18446744073709551616∧a3<18446744073709551616) (hb:b0'<18446744073709551616∧b1'<18446744073709551616∧b2'<18446744073709551616∧b3'<18446744073709551616):
 ∃H,gbody Tryz.prog (O2 20) FUEL false b3 [.one (.v up),.one (.v um),.ag (mapsV [.flt a0,.flt a1,.flt a2,.flt a3]),.ag (mapsV [.flt b0',.flt b1',.flt b2',.flt b3'])] []=some (.one (.v (.bool true)),H):=by
 have q7:O2 20 7 [] []=some (.one (.v (.bool true)),[]):=rfl
 by_cases hc:30<np
 ·exact law3_a (np:=np) (nm:=nm) hbp hbm q7 hc
 ·by_cases hd:250<nm
  ·exact law3_b hbp hbm q7 hc hd
  ·obtain⟨im,Hm,um2,q8m,wm,hm2⟩:=made8 hbm (by omega) 19
   obtain⟨ip,Hp,up2,q8p,wp,hp2⟩:=made8 hbp (by omega) 19;obtain⟨ws,o10,H10,q10,wt,o9,H9,q9,hws,cl,fs,h,a,nw,mo,un,hok⟩:=run_world hm2 (by omega) hp2 (by omega) 7;obtain⟨⟨G11,q11⟩,⟨G12,q12⟩⟩:=of_both hok 14;obtain⟨⟨G13,q13⟩,_⟩:=reps_same hok 15;obtain⟨_,⟨G14,q14⟩⟩:=reps_same hok 16;have fA:∀x:Nat,x<18446744073709551616→Flo (.flt x) (kk x):=fun x hx=>.f x hx
   obtain⟨G15,q13s⟩:=same13_ok (fA _ ha.1) (fA _ ha.2.1) (fA _ ha.2.2.1) (fA _ ha.2.2.2) (fA _ hb.1) (fA _ hb.2.1) (fA _ hb.2.2.1) (fA _ hb.2.2.2) 15;obtain⟨G16,q14s⟩:=same14_ok ha.1 ha.2.1 ha.2.2.1 ha.2.2.2 hb.1 hb.2.1 hb.2.2.1 hb.2.2.2 16;obtain⟨G17,q14a⟩:=same14_self (fA _ ha.1) (fA _ ha.2.1) (fA _ ha.2.2.1) (fA _ ha.2.2.2) 16;exact law3_c hbp hbm q7 hc hd ((o2_eq rfl _ _ _).trans q8m) wm ((o2_eq rfl _ _ _).trans q8p) wp ((o2_eq rfl _ _ _).trans q10) ((o2_eq rfl _ _ _).trans q9) hws hok.hw ((o2_eq rfl _ _ _).trans q11) ((o2_eq rfl _ _ _).trans q12)
    ((o2_eq rfl _ _ _).trans q13) ((o2_eq rfl _ _ _).trans q14) ((o2_eq rfl _ _ _).trans q13s) ((o2_eq rfl _ _ _).trans q14s) ((o2_eq rfl _ _ _).trans q14a)
end Go.Proofs.YtiahijhpjloijaaGreat.V

namespace Go.Proofs.YtiahijhpjloijaaGreat.V
open Go Go.RowKit
def BF (w:World):Blk:=⟨fun _=>none,fun b=>match w.heap[b]? with|some (.cells c e fz)=>some (c,e,fz)|_=>none⟩
theorem BF_get {w:World} {b:Nat} {c:Array Value} {e:TypeId} {fz:Nat×Nat} (h:w.heap[b]?=some (.cells c e fz)):(BF w).F b=some (c,e,fz):=by
 unfold BF;simp only[h]
theorem HV_bf (w:World):HV (BF w) .e w:=by
 refine⟨fun _ _ h=>(by cases h),fun _ _ _ _ _ _ _ _ _ h=>(by rw[Tr.get_e]at h;cases h),fun _ _ _ h=>(by rw[Tr.get_e]at h;cases h),fun b c e fz h=>?_⟩;have h:(match w.heap[b]? with|some (.cells c e fz)=>some (c,e,fz)|_=>none)=some (c,e,fz):=h
 split at h
 ·rename_i hb;cases h;exact⟨hb,fun _ _ h=>by cases h⟩
 ·cases h
def ByteRow (w:World) (a:Option Addr) (len cap:Nat) (zs:List Int):Prop:=
 (a=none∧len=0∧cap=0∧zs=[])∨
 ∃x,a=some x∧len≤cap∧cap≤maxLen∧zs.length=cap∧(∀i,i<zs.length→w.cell? (x.add i)=some (.int .u8 (zs.getD i 0)))∧∀n∈zs,(Lit.int .u8 n).wf=true
theorem byt_uB {bs:List Nat} (h:∀b∈bs,b<256):Byt (.fz 1 bs.length (uB bs)) bs.length:=by
 refine .inr ⟨1,_,rfl,rfl,by unfold uB;rw[List.length_map,Nat.mul_one],fun j hj=>?_⟩;have hg:((uB bs).drop (j*1)).take 1=[.int .u8 (.ofNat bs[j])]:=by
  unfold uB;rw[Nat.mul_one,←List.map_drop,List.drop_eq_getElem_cons hj];rfl
 rw[hg];have hb:=h _ (List.getElem_mem hj);refine .mk 0 [] _ ⟨[.int .u8],[(0,[(0,1)]),(255,[(0,(-1))])],[]⟩ [.ofNat bs[j]] rfl (.cons _ _ _ _ _ _ _ (.int _ _ _) (.nil _)) ?_;intro x hx;have e:sval [Int.ofNat bs[j]] [] 0=(bs[j]:Int):=rfl;simp only[List.mem_cons,List.not_mem_nil,or_false]at hx;rcases hx with rfl|rfl
 ·show 0≤0+(1*sval [Int.ofNat bs[j]] [] 0+0);rw[e];omega
 ·show 0≤255+((-1)*sval [Int.ofNat bs[j]] [] 0+0);rw[e];omega
theorem byte_arg {w:World} {a:Option Addr} {len cap:Nat} {zs:List Int} (h:ByteRow w a len cap zs):∃c u,CV (BF w) c (.slice a len cap)∧RU (fun _=>False) .e u c∧Byt u len:=by
 rcases h with⟨rfl,rfl,rfl,rfl⟩|⟨x,rfl,hl,hm,hz,hc,hw⟩
 ·exact⟨.nil,.nil,rfl,by rw[RU],.inl ⟨rfl,rfl⟩⟩
 ·by_cases h0:len=0
  ·subst h0
   exact⟨.emp,.fz 1 0 [],⟨x,cap,rfl⟩,by rw[RU];exact .inl ⟨rfl,rfl,.inr rfl⟩,byt_uB (bs:=[]) (by intro b hb;cases hb)⟩
  ·have hb0:∀n∈zs,0≤n∧n≤255:=fun n hn=>bounds_u8 (hw n hn)
   have hx:∃c e fz,w.heap[x.block]?=some (.cells c e fz)∧x.spot=none:=by
    have h1:=hc 0 (by omega);have h1:w.cell? x=_:=h1;unfold World.cell? at h1
    split at h1
    ·rename_i c e fz hh
     split at h1
     ·cases h1
     ·rename_i hs
      exact⟨c,e,fz,hh,by cases hsp:x.spot with|none=>rfl|some s=>rw[hsp]at hs;exact absurd rfl hs⟩
    ·cases h1
   obtain⟨c,e,fz,hh,hs⟩:=hx;have hbs:((zs.take len).map Int.toNat).length=len:=by rw[List.length_map,List.length_take];omega
   have hlt:∀b∈(zs.take len).map Int.toNat,b<256:=by
    intro b hb;obtain⟨z,hz1,rfl⟩:=List.mem_map.1 hb;have:=hb0 z (List.mem_of_mem_take hz1);omega
   refine⟨.fs x.block x.off ((zs.take len).map Int.toNat),.fz 1 len (uB ((zs.take len).map Int.toNat)),⟨⟨⟨c,e,fz,BF_get hh,?_⟩,hlt⟩,cap,?_,by rw[hbs];exact hl⟩,?_,?_⟩
   ·intro i y hy
    rw[List.getElem?_map,Option.map_eq_some_iff]at hy;obtain⟨z,hz1,rfl⟩:=hy;have hi:i<len:=by
     rcases Nat.lt_or_ge i (zs.take len).length with hh|hh
     ·rw[List.length_take]at hh;omega
     ·rw[List.getElem?_eq_none hh]at hz1;cases hz1
    rw[List.getElem?_take_of_lt hi]at hz1;have h1:=hc i (by omega);rw[List.getD_eq_getElem?_getD,hz1]at h1;have hzz:=hb0 z (List.mem_of_getElem? hz1);have e1:((z.toNat:Nat):Int)=z:=by omega
    rw[e1];unfold World.cell? at h1;have hbk:(x.add i).block=x.block:=by unfold Addr.add;split<;>rfl
    have hof:(x.add i).off=x.off+i:=by
     unfold Addr.add
     split
     ·rename_i h;subst h;rfl
     ·rfl
    have hsp:(x.add i).spot=none:=by
     unfold Addr.add
     split
     ·exact hs
     ·rfl
    rw[hbk,hh]at h1;simp only[hsp,hof]at h1;exact h1
   ·rw[hbs]
    obtain⟨xb,xo,xs⟩:=x;have hs:xs=none:=hs;subst hs;rfl
   ·rw[RU]
    exact .inr (.inr (.inr ⟨_,_,_,rfl,rfl,hbs.symm,rfl⟩))
   ·have h2:=byt_uB hlt
    rw[hbs]at h2;exact h2
theorem all_walk {w:World} {a0 a1:Option Addr} {l0 l1 c0 c1:Nat} {z0 z1:List Int} (h0:ByteRow w a0 l0 c0 z0) (h1:ByteRow w a1 l1 c1 z1) {x0 x1 x2 x3 y0 y1 y2 y3:Nat}
 (hx:x0<18446744073709551616∧x1<18446744073709551616∧x2<18446744073709551616∧x3<18446744073709551616) (hy:y0<18446744073709551616∧y1<18446744073709551616∧y2<18446744073709551616∧y3<18446744073709551616):
 Calls Tryz.prog 3 #[.slice a0 l0 c0,.slice a1 l1 c1,.agg #[.float .f64 x0,.float .f64 x1,.float .f64 x2,.float .f64 x3],.agg #[.float .f64 y0,.float .f64 y1,.float .f64 y2,.float .f64 y3]] w fun e w'=>e=.returned (.bool true)∧Below w.heap.size w w':=by
 obtain⟨cp,up,v0,r0,b0⟩:=byte_arg h0;obtain⟨cm,um,v1,r1,b1⟩:=byte_arg h1;obtain⟨H,hL⟩:=law3 b0 b1 hx hy;have hRH:RH ⟨fun _=>none,fun _=>False⟩ [] .e:=⟨fun i e fr cs h=>(by cases h),fun i j p h=>(by cases h),fun i p h=>(by cases h),fun i p h=>(by cases h),fun p h=>h.elim,fun i p h=>(by cases h),fun i h=>absurd h (Nat.not_lt_zero _)⟩;have fl4:∀x0 x1 x2 x3:Nat,RD ⟨fun _=>none,fun _=>False⟩ .e (.ag (mapsV [.flt x0,.flt x1,.flt x2,.flt x3])) (.ag [.flt x0,.flt x1,.flt x2,.flt x3]):=fun x0 x1 x2 x3=>by
  have hh:∀x:Nat,RG ⟨fun _=>none,fun _=>False⟩ .e (.v (.flt x)) (.flt x):=fun x=>by show RU _ _ _ _;rw[RU]
  exact .cons (hh x0) (.cons (hh x1) (.cons (hh x2) (.cons (hh x3) .nil)))
 obtain⟨D,hp',nx',E',hb,hd,_,_,_,_⟩:=gbody_ok (O2_good 20) (okFns 3 b3 rfl) hL (hp:=.e) (nx:=.h) (Ds:=[.one cp,.one cm,.ag [.flt x0,.flt x1,.flt x2,.flt x3],.ag [.flt y0,.flt y1,.flt y2,.flt y3]]) hRH (.cons r0 (.cons r1 (.cons (fl4 _ _ _ _) (.cons (fl4 _ _ _ _) .nil)))) (fun p h=>absurd (Tr.get_e p) h);have hD:D=.one (.bool true):=by
  cases D with
  |one c=>
   have hd:RU E'.fz hp' (.bool true) c:=hd;rw[RU]at hd;rw[hd]
  |ag _=>exact hd.elim
  |tup _=>exact hd.elim
 subst hD;obtain⟨fn,f1,f2,f3⟩:=fits 3 b3 rfl;have ck:∀x:Nat,CK (BF w) (.flt x) (.float .f64 x):=fun x=>⟨rfl,by intro h;cases h⟩
 have hv:Al (DV (BF w)) [.one cp,.one cm,.ag [.flt x0,.flt x1,.flt x2,.flt x3],.ag [.flt y0,.flt y1,.flt y2,.flt y3]] (#[Value.slice a0 l0 c0,.slice a1 l1 c1,.agg #[.float .f64 x0,.float .f64 x1,.float .f64 x2,.float .f64 x3],.agg #[.float .f64 y0,.float .f64 y1,.float .f64 y2,.float .f64 y3]]:Array Value).toList:=
  .cons v0 (.cons v1 (.cons ⟨_,rfl,.cons (ck _) (.cons (ck _) (.cons (ck _) (.cons (ck _) .nil)))⟩ (.cons ⟨_,rfl,.cons (ck _) (.cons (ck _) (.cons (ck _) (.cons (ck _) .nil)))⟩ .nil)))
 obtain⟨_,hc⟩:=body_ok mixed (O1_good 20) (O1_fr 20) f1 f2 f3 hb (HV_bf w) hv;refine hc.mono ?_
 rintro e w' ⟨v,β',rfl,h3,_,h5⟩
 have h3:v=.bool true:=h3;subst h3;exact⟨rfl,h5.below⟩
end Go.Proofs.YtiahijhpjloijaaGreat.V

