/- Parts of the proof, put together: P4. -/
import Derived.Test.YtiahijhpjloijaaGreatM38
set_option linter.unusedVariables false
set_option linter.unusedSimpArgs false
set_option maxRecDepth 100000
set_option maxHeartbeats 2000000
namespace Go.Proofs.YtiahijhpjloijaaGreat.V
open Go
theorem gbody_of {P:Program} {O:Oracle2} {m:Nat} {kp:Bool} {b:Fn} {ds:List GD} {hp:List GO} {tm:Tr GD} {z:Kd} {g':GS} {d:GD} {H:List GO} (hgt:gpars b.ps ds .e=some tm) (h:gev P O m b.k ⟨tm,hp⟩=OutM z g') (hz:∀j,z≠.exit j) (he:gends kp b g'=some (d,H)):gbody P O m kp b ds hp=some (d,H):=by
 unfold gbody;rw[hgt];simp only[];rw[h]
 cases z with
 |norm=>exact he
 |ret=>exact he
 |exit j=>exact absurd rfl (hz j)
def rcells:List AC:=[.int .i64 (0,[(23,1)]),.sl 1 [] (0,[(3,1)]) 24,.sl 4 [] (0,[(25,1)]) 25,.int .i64 (0,[(26,1)]),.bool (.ge (0,[(27,1)])),.sl 5 [] (0,[(7,1)]) 28,.sl 6 [] (0,[(8,1)]) 29,.int .i64 (0,[(30,1)]),.sl 7 [] (0,[(31,1)]) 31,.sl 8 [] (0,[(32,1)]) 32,.sl 2 [] (0,[(12,1)]) 33,.sl 9 [] (0,[(13,1)]) 34,.int .i64 (0,[(35,1)]),.int .i64 (0,[(36,1)]),.int .i64 (0,[(37,1)]),.bool (.ge (0,[(38,1)])),.int .i64 (0,[(39,1)]),.sl 14 [(0,[(40,1)]),(0,[(21,1)])] (0,[(19,1)]) 41,.sl 12 [] (0,[(42,1)]) 42]
theorem peopled {u2:U} {n2:Nat} (h2:Byt u2 n2) (hn2:n2≤30) (k:Nat):∃ws o H,GDD (k+13) 10 [.one (.loc 0 0)] [.ob 72 false (mapsV [u2,.int .i64 0])]=some (.ag (mapsV ws),o::H)∧ws.length=19∧∃e1:AEnv,(∀x∈rout.fa,0≤lv e1.ρ x)∧Al (gaC XX e1) rcells (mapsV ws)∧e1.ρ 3=19∧e1.ρ 4=0∧e1.ρ 7=6∧e1.ρ 8=3∧e1.ρ 10=0∧e1.ρ 12=3∧e1.ρ 13=3∧e1.ρ 19=3∧e1.ρ 20=2∧e1.ρ 21=0:=by
 have hc:=pre10 (P:=Tryz.prog) (O:=GDD (k+12)) (n:=FUEL) (kn21 k) (fun i hi=>kn19 k i hi) (fun i hi=>kn17 k i hi) wd_len ud_len (by decide) (o0:=.ob 72 false (mapsV [u2,.int .i64 0]))
  (Q:=fun o=>∃a2 a3 z g',o=OutM z g'∧(∀j,z≠.exit j)∧∃hp ds,gres false b10 g'=some (hp,ds)∧Post XX (eR n2 u2 a2 a3) con10R ds hp) (by
  intro a2 a3 g n02 n03 n23 hS;have hnv:con10R.nv<st10.nv:=by
   have:st10.nv=26:=by unfold st10;rw[facts_nv]
   rw[this];show 23<26;decide
  obtain⟨z,g',k1,k2,hp,ds,k3,k4⟩:=rcheck_ok (O2:=GDD (k+12)) cmps_ok (fun f c hcf hl=>con_holds (.inl hcf) (n:=k+12) (Nat.lt_of_lt_of_le hl (Nat.le_add_left _ _))) (Nat.le_refl _) (by
   intro o ho l hl;have ho:o∈[rout]:=ho;rw[List.mem_singleton.1 ho]at hl
   cases hl) r10_ok (w_rest h2 hn2 n02 n03 n23 hS) hnv (fun _=>⟨rfl,rfl⟩)
  exact⟨a2,a3,z,g',k1,k2,hp,ds,k3,k4⟩)
 obtain⟨a2,a3,z,g',q1,q2,hp,ds,q3,d,q4,o,q5,q6,e1,q7,q8⟩:=hc;have hge:=gends_eq false b10 g' q3 q4;have hb:GDD (k+13) 10 [.one (.loc 0 0)] [.ob 72 false (mapsV [u2,.int .i64 0])]=some (d,hp):=by
  exact(gdd_f (f:=10) (b:=b10) rfl rfl _ _ _).trans (gbody_of (tm:=gput (some p0) (.one (.loc 0 0)) .e) rfl q1 q2 hge)
 have q5:o∈[rout]:=q5;rw[List.mem_singleton]at q5;subst q5;have hP:=q8 e1 (.refl _ _);have hd:=hP.d;have hpt:=hP.ptr 72 _ rfl
 cases d with
 |one _=>exact hd.elim
 |tup _=>exact hd.elim
 |ag gs=>
  obtain⟨ws,rfl⟩:=pures_v rfl hd;have hlen:ws.length=19:=by
   have:=Al.len hd;rw[mapsV_eq,List.length_map]at this;exact this.symm
  obtain⟨g0,hH,_⟩:=hpt;obtain⟨o,H1,rfl⟩:∃o H1,hp=o::H1:=by
   cases hp with
   |nil=>cases hH
   |cons o H1=>exact⟨o,H1,rfl⟩
  exact⟨ws,o,H1,hb,hlen,e1,hP.fa,hd,(q7 3 (by decide)).1,(q7 4 (by decide)).1,(q7 7 (by decide)).1,(q7 8 (by decide)).1,(q7 10 (by decide)).1,(q7 12 (by decide)).1,(q7 13 (by decide)).1,(q7 19 (by decide)).1,(q7 20 (by decide)).1,(q7 21 (by decide)).1⟩
def e9 (n1:Nat) (u1:U) (e:AEnv):AEnv:=
 ⟨fun v=>match v with|0=>n1|1=>0|2=>e.ρ 23|3=>e.ρ 3|4=>e.ρ 25|5=>e.ρ 26|6=>e.ρ 27|7=>e.ρ 7|8=>e.ρ 8|9=>e.ρ 30|10=>e.ρ 31|11=>e.ρ 32|12=>e.ρ 12|13=>e.ρ 13|14=>e.ρ 35|15=>e.ρ 36|16=>e.ρ 37|17=>e.ρ 38|18=>e.ρ 39|19=>e.ρ 19|20=>e.ρ 40|21=>e.ρ 21|22=>e.ρ 42|23=>60|_=>0,e.ν,e.on,fun v=>match v with|0=>lstU u1|3=>e.L 24|4=>e.L 25|7=>e.L 28|8=>e.L 29|10=>e.L 31|11=>e.L 32|12=>e.L 33|13=>e.L 34|19=>e.L 41|22=>e.L 42|_=>[]⟩
theorem cvSlP {e e':AEnv} {t nm nm':Nat} {n n':Lin} {ps ps':List Lin} (h:lv e.ρ n=lv e'.ρ n') (hp:ps.map (lv e.ρ)=ps'.map (lv e'.ρ)) (hl:e.L nm=e'.L nm') (g:G) (hg:gaC XX e (.sl t ps n nm) g):gaC XX e' (.sl t ps' n' nm') g:=by
 rcases hg with⟨h1,h2⟩|⟨k,m,h1,h2,h3⟩
 ·exact .inl ⟨h1,by rw[←h];exact h2⟩
 ·exact .inr ⟨k,m,by rw[←hl];exact h1,by rw[←h];exact h2,by rw[←hl,←hp];exact h3⟩
theorem run_world {u1 u2:U} {n1 n2:Nat} (h1:Byt u1 n1) (hn1:n1≤250) (h2:Byt u2 n2) (hn2:n2≤30) (k:Nat):
 ∃ws o H,GDD (k+13) 10 [.one (.loc 0 0)] [.ob 72 false (mapsV [u2,.int .i64 0])]=some (.ag (mapsV ws),o::H)∧
 ∃ws' o' H',GDD (k+13) 9 [.one (.loc 0 0),.ag (mapsV ws),.one (.v (.int .i64 60))] [.ob 72 false (mapsV [u1,.int .i64 0])]=some (.ag (mapsV ws'),o'::H')∧ws.length=19∧ws'.length=19∧
 ∃(N:Int) (k m:Nat) (cl:List U),0≤N∧N≤665∧m=3∧ws'[17]?=some (.fz k m cl)∧CfL XX.T 14 [N,0] k m cl:=by
 obtain⟨ws,o,H,q1,hlen,e1,hf,hd,s3,s4,s7,s8,s10,s12,s13,s19,s20,s21⟩:=peopled h2 hn2 k;refine⟨ws,o,H,q1,?_⟩;have hc9:=con_holds Cs.c9 (n:=k+13) (by show 11<k+13;omega);obtain⟨d',H',q2,o',ho',hnv',e2,ha',hp'⟩:=hc9 (e9 n1 u1 e1) [.ag (mapsV ws),.one (.v (.int .i64 60))] [.ob 72 false (mapsV [u1,.int .i64 0])] (by
  intro e' he';have r0:e'.ρ 0=n1:=(he' 0 (by decide)).1;have r1:e'.ρ 1=0:=(he' 1 (by decide)).1;have r2:e'.ρ 2=e1.ρ 23:=(he' 2 (by decide)).1;have r3:e'.ρ 3=e1.ρ 3:=(he' 3 (by decide)).1;have r4:e'.ρ 4=e1.ρ 25:=(he' 4 (by decide)).1;have r5:e'.ρ 5=e1.ρ 26:=(he' 5 (by decide)).1;have r6:e'.ρ 6=e1.ρ 27:=(he' 6 (by decide)).1;have r7:e'.ρ 7=e1.ρ 7:=(he' 7 (by decide)).1;have r8:e'.ρ 8=e1.ρ 8:=(he' 8 (by decide)).1;have r9:e'.ρ 9=e1.ρ 30:=(he' 9 (by decide)).1;have r10:e'.ρ 10=e1.ρ 31:=(he' 10 (by decide)).1;have r11:e'.ρ 11=e1.ρ 32:=(he' 11 (by decide)).1;have r12:e'.ρ 12=e1.ρ 12:=(he' 12 (by decide)).1;have r13:e'.ρ 13=e1.ρ 13:=(he' 13 (by decide)).1;have r14:e'.ρ 14=e1.ρ 35:=(he' 14 (by decide)).1;have r15:e'.ρ 15=e1.ρ 36:=(he' 15 (by decide)).1;have r16:e'.ρ 16=e1.ρ 37:=(he' 16 (by decide)).1;have r17:e'.ρ 17=e1.ρ 38:=(he' 17 (by decide)).1;have r18:e'.ρ 18=e1.ρ 39:=(he' 18 (by decide)).1;have r19:e'.ρ 19=e1.ρ 19:=(he' 19 (by decide)).1;have r20:e'.ρ 20=e1.ρ 40:=(he' 20 (by decide)).1;have r21:e'.ρ 21=e1.ρ 21:=(he' 21 (by decide)).1;have r22:e'.ρ 22=e1.ρ 42:=(he' 22 (by decide)).1;have r23:e'.ρ 23=60:=(he' 23 (by decide)).1;have l0:e'.L 0=lstU u1:=(he' 0 (by decide)).2.2.2;have l3:e'.L 3=e1.L 24:=(he' 3 (by decide)).2.2.2;have l4:e'.L 4=e1.L 25:=(he' 4 (by decide)).2.2.2;have l7:e'.L 7=e1.L 28:=(he' 7 (by decide)).2.2.2;have l8:e'.L 8=e1.L 29:=(he' 8 (by decide)).2.2.2;have l10:e'.L 10=e1.L 31:=(he' 10 (by decide)).2.2.2;have l11:e'.L 11=e1.L 32:=(he' 11 (by decide)).2.2.2;have l12:e'.L 12=e1.L 33:=(he' 12 (by decide)).2.2.2;have l13:e'.L 13=e1.L 34:=(he' 13 (by decide)).2.2.2;have l19:e'.L 19=e1.L 41:=(he' 19 (by decide)).2.2.2;have l22:e'.L 22=e1.L 42:=(he' 22 (by decide)).2.2.2;have f0:=hf (0,[(23,1)]) (by simp[rout]);have f1:=hf (0,[(25,1)]) (by simp[rout]);have f2:=hf (1069557168,[(25,(-1))]) (by simp[rout]);have f3:=hf (1,[(27,1)]) (by simp[rout]);have f4:=hf (0,[(27,(-1))]) (by simp[rout]);have f5:=hf (0,[(31,1)]) (by simp[rout]);have f6:=hf (1069549932,[(31,(-1))]) (by simp[rout]);have f7:=hf (0,[(32,1)]) (by simp[rout]);have f8:=hf (4,[(32,(-1))]) (by simp[rout]);have f9:=hf (0,[(35,1)]) (by simp[rout]);have f10:=hf (1,[(38,1)]) (by simp[rout]);have f11:=hf (0,[(38,(-1))]) (by simp[rout]);have f12:=hf (0,[(40,1)]) (by simp[rout]);have f13:=hf (1069548123,[(40,(-1))]) (by simp[rout]);have f14:=hf (0,[(42,1)]) (by simp[rout]);have f15:=hf (40,[(42,(-1))]) (by simp[rout]);have f16:=hf (0,[(43,1)]) (by simp[rout]);have f17:=hf (1070596096,[(43,(-1))]) (by simp[rout]);have f18:=hf (9223372036854775807,[(23,(-1))]) (by simp[rout]);have f19:=hf (9223372036854775807,[(35,(-1))]) (by simp[rout]);have f20:=hf (0,[(0,1),(43,(-1))]) (by simp[rout]);have f21:=hf (0,[(2,(-1)),(23,1)]) (by simp[rout]);have f22:=hf (0,[(14,(-1)),(35,1)]) (by simp[rout]);have f23:=hf (0,[(20,(-1)),(40,1)]) (by simp[rout]);have f24:=hf (0,[(1,(-1)),(43,1)]) (by simp[rout]);have f25:=hf (9648,[(4,1),(25,(-1))]) (by simp[rout]);have f26:=hf (2412,[(10,1),(31,(-1))]) (by simp[rout]);have f27:=hf (603,[(20,1),(40,(-1))]) (by simp[rout]);have f28:=hf (10,[(1,1),(43,(-1))]) (by simp[rout]);simp only[lv,evl]at f0 f1 f2 f3 f4 f5 f6 f7 f8 f9 f10 f11 f12 f13 f14 f15 f16 f17 f18 f19 f20 f21 f22 f23 f24 f25 f26 f27 f28;refine⟨?_,.cons (al_conv (.cons (cvInt (by simp only[lv,evl,r2]<;>omega)) (.cons (cvSl (by simp only[lv,evl,r3]<;>omega) l3.symm) (.cons (cvSl (by simp only[lv,evl,r4]<;>omega) l4.symm) (.cons (cvInt (by simp only[lv,evl,r5]<;>omega)) (.cons (cvBool (by simp only[lv,evl,r6]<;>omega)) (.cons (cvSl (by simp only[lv,evl,r7]<;>omega) l7.symm) (.cons (cvSl (by simp only[lv,evl,r8]<;>omega) l8.symm) (.cons (cvInt (by simp only[lv,evl,r9]<;>omega)) (.cons (cvSl (by simp only[lv,evl,r10]<;>omega) l10.symm) (.cons (cvSl (by simp only[lv,evl,r11]<;>omega) l11.symm) (.cons (cvSl (by simp only[lv,evl,r12]<;>omega) l12.symm) (.cons (cvSl (by simp only[lv,evl,r13]<;>omega) l13.symm) (.cons (cvInt (by simp only[lv,evl,r14]<;>omega)) (.cons (cvInt (by simp only[lv,evl,r15]<;>omega)) (.cons (cvInt (by simp only[lv,evl,r16]<;>omega)) (.cons (cvBool (by simp only[lv,evl,r17]<;>omega)) (.cons (cvInt (by simp only[lv,evl,r18]<;>omega)) (.cons (cvSlP (by simp only[lv,evl,r19]<;>omega) (by simp only[List.map_cons,List.map_nil,lv,evl,r20,r21]) l19.symm) (.cons (cvSl (by simp only[lv,evl,r22]<;>omega) l22.symm) .nil))))))))))))))))))) hd) (.cons (by show G.v (.int .i64 60)=.v (.int .i64 (0+(1*e'.ρ 23+0)));rw[r23];rfl) .nil),⟨_,rfl,.cons (byt_sl h1 (x:=(0,[(0,1)])) (by show 0+(1*e'.ρ 0+0)=_;rw[r0];omega) l0) (.cons (by show G.v (.int .i64 0)=.v (.int .i64 (0+(1*e'.ρ 1+0)));rw[r1];rfl) .nil)⟩,by intro z hz;cases hz⟩;intro x hx;simp only[con9,List.mem_cons,List.not_mem_nil,or_false]at hx;rcases hx with rfl|rfl|rfl|rfl|rfl|rfl|rfl|rfl|rfl|rfl|rfl|rfl|rfl|rfl|rfl|rfl|rfl|rfl|rfl|rfl|rfl|rfl|rfl|rfl|rfl|rfl|rfl|rfl|rfl|rfl|rfl|rfl|rfl|rfl|rfl|rfl|rfl|rfl<;>simp only[lv,evl,r0,r1,r2,r3,r4,r5,r6,r7,r8,r9,r10,r11,r12,r13,r14,r15,r16,r17,r18,r19,r20,r21,r22,r23]<;>omega)
 simp only[con9,List.mem_singleton]at ho';subst ho';have hP':=hp' e2 (.refl _ _);have hd':=hP'.d;have hf':=hP'.fa;have hpt':=hP'.ptr 72 _ rfl;have y0:=hf' (60,[(20,1),(41,(-1))]) (by simp);have y1:=hf' (0,[(21,1),(42,(-1))]) (by simp);have y2:=hf' (0,[(41,1)]) (by simp);have y3:=hf' (0,[(42,1)]) (by simp);have a20:e2.ρ 20=e1.ρ 40:=(ha' 20 (by decide)).1;have a21:e2.ρ 21=e1.ρ 21:=(ha' 21 (by decide)).1;have x0:=hf (603,[(20,1),(40,(-1))]) (by simp[rout]);simp only[lv,evl]at y0 y1 y2 y3 x0
 cases d' with
 |one _=>exact hd'.elim
 |tup _=>exact hd'.elim
 |ag gs'=>
  obtain⟨ws',rfl⟩:=pures_v rfl hd';have hlen':ws'.length=19:=by
   have:=Al.len hd';rw[mapsV_eq,List.length_map]at this;exact this.symm
  obtain⟨g0',hH',_⟩:=hpt';obtain⟨o',H2,rfl⟩:∃o H1,H'=o::H1:=by
   cases H' with
   |nil=>cases hH'
   |cons o H1=>exact⟨o,H1,rfl⟩
  refine⟨ws',o',H2,q2,hlen,hlen',?_⟩;obtain⟨g,hg1,hg2⟩:=Al.get hd' (i:=17) rfl;rw[mapsV_eq,List.getElem?_map]at hg1;rcases hg2 with⟨_,h3⟩|⟨k',m,rfl,h4,h5⟩
  ·have h3:(3:Int)+0=0:=h3
   omega
  ·have h4:(m:Int)=3+0:=h4
   cases hw:ws'[17]? with
   |none=>rw[hw]at hg1;cases hg1
   |some u=>
    rw[hw]at hg1;injection hg1 with hg1
    injection hg1 with hg1
    subst hg1;have hz:e2.ρ 42=0:=by omega
    have h5:CfL XX.T 14 [0+(1*e2.ρ 41+0),0+(1*e2.ρ 42+0)] k' m _:=h5;rw[hz,show(0:Int)+(1*0+0)=0 from rfl,show(0:Int)+(1*e2.ρ 41+0)=e2.ρ 41 by omega]at h5;exact⟨e2.ρ 41,k',m,_,by omega,by omega,by omega,rfl,h5⟩
end Go.Proofs.YtiahijhpjloijaaGreat.V

