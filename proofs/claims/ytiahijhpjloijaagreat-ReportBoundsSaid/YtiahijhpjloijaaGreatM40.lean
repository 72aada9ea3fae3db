/- Parts of the proof, put together: T3, T4. -/
import Derived.Test.YtiahijhpjloijaaGreatM39
import Derived.Test.YtiahijhpjloijaaGreatM27
set_option linter.unusedVariables false
set_option linter.unusedSimpArgs false
namespace Go.Proofs.YtiahijhpjloijaaGreat.V
open Go
theorem CfCs.get {T:Nat→Option STy} {l:List CT} {σ:Nat→Int} {us:List U} {ms:List Int} (h:CfCs T l σ us ms):∀{i:Nat} {ct:CT},l[i]?=some ct→∃u m,us[i]?=some u∧ms[i]?=some m∧CfC T ct σ u m:=by
 induction l generalizing us ms with
 |nil=>intro i ct hi;cases hi
 |cons c l ih=>
  intro i ct hi
  cases h with
  |cons _ _ _ u us' m ms' h1 h2=>
   cases i with
   |zero=>cases hi;exact⟨u,m,rfl,rfl,h1⟩
   |succ i=>exact ih h2 hi
theorem CfC.isInt {T:Nat→Option STy} {k:IntKind} {σ:Nat→Int} {u:U} {m:Int} (h:CfC T (.int k) σ u m):u=.int k m:=by cases h;rfl
theorem sval_get {ms pv:List Int} {i:Nat} {m:Int} (h:ms[i]?=some m):sval ms pv i=m:=by
 unfold sval;rw[List.getD_eq_getElem?_getD,List.getElem?_append_left (lt_of_get h),h];rfl
theorem sval_par {ms:List Int} {p:Int} (n:Nat) (h:ms.length=n):sval ms [p] n=p:=by
 unfold sval;rw[List.getD_eq_getElem?_getD,List.getElem?_append_right (by omega),h,Nat.sub_self];rfl
theorem file_cells {c:List U} {t:Int} (h:CfE XX.T 11 [t] c):∃mo un:Int,c[0]?=some (.int .i64 mo)∧c[1]?=some (.int .i64 un)∧un≤t:=by
 cases h with
 |mk _ _ _ ty ms ht h hc=>
  cases ht
  obtain⟨u0,m0,a0,b0,c0⟩:=h.get (i:=0) rfl;obtain⟨u1,m1,a1,b1,c1⟩:=h.get (i:=1) rfl;have e0:=c0.isInt;have e1:=c1.isInt;subst e0 e1;have h1:=hc (0,[(1,(-1)),(8,1)]) (by simp);have e8:sval ms [t] 8=t:=sval_par 8 h.len.2;have e1:sval ms [t] 1=m1:=sval_get b1;have h1:0≤0+((-1)*sval ms [t] 1+(1*sval ms [t] 8+0)):=h1;rw[e8,e1]at h1;exact⟨m0,m1,a0,a1,by omega⟩
theorem client_cells {c:List U} {N Z:Int} (h:CfE XX.T 14 [N,Z] c):∃(nw hh aa:Int) (fl:List U),0≤hh∧hh≤N∧0≤aa∧aa≤N∧1≤aa+Z∧c[1]?=some (.int .i64 nw)∧c[18]?=some (.int .i64 hh)∧c[19]?=some (.int .i64 aa)∧c[4]?=some (.fz 8 6 fl)∧fl.length=6*8∧∀j,j<6→CfE XX.T 11 [nw+49] (pc 8 j fl):=by
 cases h with
 |mk _ _ _ ty ms ht h hc=>
  cases ht
  obtain⟨u1,m1,a1,b1,c1⟩:=h.get (i:=1) rfl;obtain⟨u4,m4,a4,b4,c4⟩:=h.get (i:=4) rfl;obtain⟨u18,m18,a18,b18,c18⟩:=h.get (i:=18) rfl;obtain⟨u19,m19,a19,b19,c19⟩:=h.get (i:=19) rfl;have e1:=c1.isInt;have e18:=c18.isInt;have e19:=c19.isInt;subst e1 e18 e19;have f4:sval ms [N,Z] 4=m4:=sval_get b4;have f1:sval ms [N,Z] 1=m1:=sval_get b1;have h1:0≤(-6)+(1*sval ms [N,Z] 4+0):=hc ((-6),[(4,1)]) (by simp);have h2:0≤6+((-1)*sval ms [N,Z] 4+0):=hc (6,[(4,(-1))]) (by simp);rw[f4]at h1 h2;have f18:sval ms [N,Z] 18=m18:=sval_get b18;have f19:sval ms [N,Z] 19=m19:=sval_get b19;have hlen:ms.length=20:=h.len.2;have f20:sval ms [N,Z] 20=N:=by
   unfold sval;rw[List.getD_eq_getElem?_getD,List.getElem?_append_right (by omega),hlen];rfl
  have f21:sval ms [N,Z] 21=Z:=by
   unfold sval;rw[List.getD_eq_getElem?_getD,List.getElem?_append_right (by omega),hlen];rfl
  have g1:0≤0+(1*sval ms [N,Z] 18+0):=hc (0,[(18,1)]) (by simp);have g2:0≤0+(1*sval ms [N,Z] 19+0):=hc (0,[(19,1)]) (by simp);have g3:0≤0+((-1)*sval ms [N,Z] 18+(1*sval ms [N,Z] 20+0)):=hc (0,[(18,(-1)),(20,1)]) (by simp);have g4:0≤0+((-1)*sval ms [N,Z] 19+(1*sval ms [N,Z] 20+0)):=hc (0,[(19,(-1)),(20,1)]) (by simp);have g5:0≤(-1)+(1*sval ms [N,Z] 19+(1*sval ms [N,Z] 21+0)):=hc ((-1),[(19,1),(21,1)]) (by simp);rw[f18]at g1;rw[f19]at g2;rw[f18,f20]at g3;rw[f19,f20]at g4;rw[f19,f21]at g5
  cases c4 with
  |nil=>omega
  |fz _ _ _ k n l hk hl hE=>
   cases hk
   have hn:n=6:=by omega
   subst hn;refine⟨m1,m18,m19,l,by omega,by omega,by omega,by omega,by omega,a1,a18,a19,a4,hl,fun j hj=>?_⟩;have:=hE j hj;rw[pcE];have e:[(49,[(1,1)])].map (lv (sval ms [N,Z]))=[m1+49]:=by
    show[49+(1*sval ms [N,Z] 1+0)]=_;rw[f1,Int.one_mul,Int.add_zero,Int.add_comm]
   rw[e]at this;exact this
theorem world_ok {ws cl:List U} {k m:Nat} (hw:ws.length=19) (h17:ws[17]?=some (.fz k m cl)) (hm:m=3) {N Z:Int} (hc:CfL XX.T 14 [N,Z] k m cl):∃fs h a nw mo un,WOk ws cl fs h a nw mo un∧∀i,i<3→0≤h i∧h i≤N∧0≤a i∧a i≤N∧1≤a i+Z:=by
 subst hm;obtain⟨hk,hl,hE⟩:=hc
 cases hk
 have hcl:∀i,i<3→∃(nw hh aa:Int) (fl:List U),0≤hh∧hh≤N∧0≤aa∧aa≤N∧1≤aa+Z∧(pc 20 i cl)[1]?=some (.int .i64 nw)∧(pc 20 i cl)[18]?=some (.int .i64 hh)∧(pc 20 i cl)[19]?=some (.int .i64 aa)∧(pc 20 i cl)[4]?=some (.fz 8 6 fl)∧fl.length=6*8∧∀j,j<6→CfE XX.T 11 [nw+49] (pc 8 j fl):=fun i hi=>by
  rw[pcE];exact client_cells (hE i hi)
 have h1:∀i:Nat,∃z:Int×Int×Int×List U,i<3→0≤z.2.1∧z.2.1≤N∧0≤z.2.2.1∧z.2.2.1≤N∧1≤z.2.2.1+Z∧(pc 20 i cl)[1]?=some (.int .i64 z.1)∧(pc 20 i cl)[18]?=some (.int .i64 z.2.1)∧(pc 20 i cl)[19]?=some (.int .i64 z.2.2.1)∧(pc 20 i cl)[4]?=some (.fz 8 6 z.2.2.2)∧z.2.2.2.length=6*8∧∀j,j<6→CfE XX.T 11 [z.1+49] (pc 8 j z.2.2.2):=by
  intro i
  by_cases hi:i<3
  ·obtain⟨nw,hh,aa,fl,h⟩:=hcl i hi
   exact⟨(nw,hh,aa,fl),fun _=>h⟩
  ·exact⟨(0,0,0,[]),fun h=>absurd h hi⟩
 obtain⟨z,hz⟩:=Classical.axiomOfChoice h1;have h2:∀i:Nat,∃y:Nat→Int×Int,∀j,i<3→j<6→(pc 8 j (z i).2.2.2)[0]?=some (.int .i64 (y j).1)∧(pc 8 j (z i).2.2.2)[1]?=some (.int .i64 (y j).2)∧(y j).2≤(z i).1+49:=by
  intro i;have h3:∀j:Nat,∃y:Int×Int,i<3→j<6→(pc 8 j (z i).2.2.2)[0]?=some (.int .i64 y.1)∧(pc 8 j (z i).2.2.2)[1]?=some (.int .i64 y.2)∧y.2≤(z i).1+49:=by
   intro j
   by_cases hi:i<3∧j<6
   ·obtain⟨mo,un,e1,e2,e3⟩:=file_cells ((hz i hi.1).2.2.2.2.2.2.2.2.2.2 j hi.2)
    exact⟨(mo,un),fun _ _=>⟨e1,e2,e3⟩⟩
   ·exact⟨(0,0),fun a b=>absurd ⟨a,b⟩ hi⟩
  obtain⟨y,hy⟩:=Classical.axiomOfChoice h3;exact⟨y,hy⟩
 obtain⟨y,hy⟩:=Classical.axiomOfChoice h2;exact⟨fun i=>(z i).2.2.2,fun i=>(z i).2.1,fun i=>(z i).2.2.1,fun i=>(z i).1,fun i j=>(y i j).1,fun i j=>(y i j).2,
  ⟨hw,h17,hl,fun i hi=>(hz i hi).2.2.2.2.2.2.2.2.1,fun i hi=>(hz i hi).2.2.2.2.2.2.2.2.2.1,fun i hi=>(hz i hi).2.2.2.2.2.1,fun i hi=>(hz i hi).2.2.2.2.2.2.1,fun i hi=>(hz i hi).2.2.2.2.2.2.2.1,
    fun i j hi hj=>(hy i j hi hj).1,fun i j hi hj=>(hy i j hi hj).2.1,fun i j hi hj=>(hy i j hi hj).2.2⟩,fun i hi=>⟨(hz i hi).1,(hz i hi).2.1,(hz i hi).2.2.1,(hz i hi).2.2.2.1,(hz i hi).2.2.2.2.1⟩⟩
end Go.Proofs.YtiahijhpjloijaaGreat.V

namespace Go.Proofs.YtiahijhpjloijaaGreat.V
open Go
open Fl (isN rung)
theorem pos_N {a:Nat} (h:a≤9218868437227405312):isN a=false:=by
 unfold isN rung;have e:Fl.INF=9218868437227405312:=rfl;rw[e,Nat.mod_eq_of_lt (by omega)];exact decide_eq_false (by omega)
theorem pos_key {a:Nat} (h:a≤9218868437227405312):Fl.key a=a:=by
 have h2:kk a=a+9223372036854775808:=by
  unfold kk;rw[pos_N h,if_neg (by decide),if_neg (by omega)]
 rcases key_kk (a:=a) (by omega)with⟨h3,_,_⟩|⟨_,h4,_⟩
 ·rw[pos_N h]at h3;cases h3
 ·omega
theorem pos_sgn {a:Nat} (h:a≤9218868437227405312):Fl.sgn a=false:=by
 unfold Fl.sgn;rw[Nat.div_eq_of_lt (by omega)];rfl
theorem pos_order {a b:Nat} (ha:a≤9218868437227405312) (hb:b≤9218868437227405312):Fl.D.order a b=some (if a<b then .lt else if b<a then .gt else .eq):=by
 rw[Fl.order_val a b (pos_N ha) (pos_N hb)];have k1:=pos_key ha;have k2:=pos_key hb;rcases Int.lt_trichotomy (Fl.val a) (Fl.val b)with h|h|h
 ·have:=Fl.val_key (pos_N ha) (pos_N hb) h
  rw[Fl.cmp_lt h,if_pos (by omega)]
 ·have:=(Fl.val_eq_key (pos_N ha) (pos_N hb) h).1 (by rw[pos_sgn ha,pos_sgn hb])
  rw[Fl.cmp_eq h,if_neg (by omega),if_neg (by omega)]
 ·have:=Fl.val_key (pos_N hb) (pos_N ha) h
  rw[Fl.cmp_gt h,if_neg (by omega),if_pos (by omega)]
section
variable{a b:Nat}
theorem c_leq (ha:a≤9218868437227405312) (hb:b≤9218868437227405312):cbin .leq (.flt a) (.flt b)=some (.bool (decide (a≤b))):=by
 rw[fcmp_of _ _ _ (by decide) (by decide),pos_order ha hb];rcases Nat.lt_trichotomy a b with h|h|h
 ·rw[if_pos h,decide_eq_true (by omega)];rfl
 ·rw[if_neg (by omega),if_neg (by omega),decide_eq_true (by omega)];rfl
 ·rw[if_neg (by omega),if_pos h,decide_eq_false (by omega)];rfl
theorem c_geq (ha:a≤9218868437227405312) (hb:b≤9218868437227405312):cbin .geq (.flt a) (.flt b)=some (.bool (decide (b≤a))):=by
 rw[fcmp_of _ _ _ (by decide) (by decide),pos_order ha hb];rcases Nat.lt_trichotomy a b with h|h|h
 ·rw[if_pos h,decide_eq_false (by omega)];rfl
 ·rw[if_neg (by omega),if_neg (by omega),decide_eq_true (by omega)];rfl
 ·rw[if_neg (by omega),if_pos h,decide_eq_true (by omega)];rfl
theorem c_lss (ha:a≤9218868437227405312) (hb:b≤9218868437227405312):cbin .lss (.flt a) (.flt b)=some (.bool (decide (a<b))):=by
 rw[fcmp_of _ _ _ (by decide) (by decide),pos_order ha hb];rcases Nat.lt_trichotomy a b with h|h|h
 ·rw[if_pos h,decide_eq_true (by omega)];rfl
 ·rw[if_neg (by omega),if_neg (by omega),decide_eq_false (by omega)];rfl
 ·rw[if_neg (by omega),if_pos h,decide_eq_false (by omega)];rfl
theorem c_gtr (ha:a≤9218868437227405312) (hb:b≤9218868437227405312):cbin .gtr (.flt a) (.flt b)=some (.bool (decide (b<a))):=by
 rw[fcmp_of _ _ _ (by decide) (by decide),pos_order ha hb];rcases Nat.lt_trichotomy a b with h|h|h
 ·rw[if_pos h,decide_eq_false (by omega)];rfl
 ·rw[if_neg (by omega),if_neg (by omega),decide_eq_false (by omega)];rfl
 ·rw[if_neg (by omega),if_pos h,decide_eq_true (by omega)];rfl
theorem c_neq (ha:a≤9218868437227405312):cbin .neq (.flt a) (.flt a)=some (.bool false):=by
 rw[fcmp_of _ _ _ (by decide) (by decide),pos_order ha ha,if_neg (by omega),if_neg (by omega)];rfl
end
theorem okR_1:allN (fun i=>okR (i+1000)) 1000=true:=by kernel_rfl
theorem okR_2:allN (fun i=>okR (i+2000)) 1000=true:=by kernel_rfl
theorem okR_3:allN (fun i=>okR (i+3000)) 1000=true:=by kernel_rfl
theorem okR_4 {n:Nat} (h:n<4000):okR n=true:=by
 by_cases h1:n<1000
 ·exact allN_spec okR_all n h1
 ·by_cases h2:n<2000
  ·have:=allN_spec okR_1 (n-1000) (by omega)
   rw[show n-1000+1000=n by omega]at this;exact this
  ·by_cases h3:n<3000
   ·have:=allN_spec okR_2 (n-2000) (by omega)
    rw[show n-2000+2000=n by omega]at this;exact this
   ·have:=allN_spec okR_3 (n-3000) (by omega)
    rw[show n-3000+3000=n by omega]at this;exact this
theorem fl_read4 {n:Nat} (h:n<4000):∃k:Nat,k≤1074∧Fl.D.read (fl n)=.number false (n<<<k) (-(k:Int)):=by
 have h1:=okR_4 h;unfold okR at h1
 split at h1
 ·rename_i m p hr
  simp only[Bool.and_eq_true]at h1;obtain⟨h2,h3⟩:=h1;rw[beq_iff]at h2;rw[ble_iff]at h3;exact⟨p+1,by omega,by rw[hr,h2];rfl⟩
 ·rename_i m p hr
  simp only[Bool.and_eq_true]at h1;obtain⟨h2,h3⟩:=h1;rw[beq_iff]at h2 h3;subst h2 h3;exact⟨0,by omega,by rw[hr];rfl⟩
 ·cases h1
theorem cut_le {n drop b:Nat} (h:n<2^(b+drop)):Ieee.Toward.even.cut false n drop≤2^b:=by
 unfold Ieee.Toward.cut;dsimp only;rcases Nat.le_total drop (n.log2+2)with hd|hd
 ·rw[Nat.min_eq_left hd]
  have h1:n/1<<<drop<2^b:=by
   rw[Nat.shiftLeft_eq,Nat.one_mul,Nat.div_lt_iff_lt_mul (Nat.two_pow_pos _),←Nat.pow_add];exact h
  generalize(decide (1<<<drop<2*(n%1<<<drop))||(1<<<drop==2*(n%1<<<drop)&&n/1<<<drop%2==1))=x;show n/1<<<drop+x.toNat≤2^b;have:x.toNat≤1:=Bool.toNat_le x;omega
 ·rw[Nat.min_eq_right hd]
  have h0:n<2^(n.log2+1):=Nat.lt_log2_self;have h2:2^(n.log2+2)=2*2^(n.log2+1):=by rw[Nat.pow_succ,Nat.mul_comm]
  have h1:n/1<<<(n.log2+2)=0:=by
   rw[Nat.shiftLeft_eq,Nat.one_mul];exact Nat.div_eq_of_lt (by omega)
  have h3:n%1<<<(n.log2+2)=n:=by
   rw[Nat.shiftLeft_eq,Nat.one_mul];exact Nat.mod_eq_of_lt (by omega)
  have h4:(decide (1<<<(n.log2+2)<2*n)||(1<<<(n.log2+2)==2*n&&0%2==1))=false:=by
   rw[Nat.shiftLeft_eq,Nat.one_mul,decide_eq_false (by omega)];simp
  simp only[h1,h3,h4];exact Nat.zero_le _
theorem near_le {mag:Nat} {place:Int} (h:place+(mag.log2:Int)≤ -1):Fl.D.nearest false mag place≤4607182418800017408:=by
 unfold Ieee.Format.nearest
 by_cases h0:mag=0
 ·rw[if_pos h0];decide
 ·rw[if_neg h0]
  have hD:Fl.D.leastPlace= -1074:=by decide
  have hf:Fl.D.fractionBits=52:=by decide
  have hb:Fl.D.binade=4503599627370496:=Fl.bn;rw[hD,hf,hb];have g2:mag<2^(mag.log2+1):=Nat.lt_log2_self;obtain⟨last,hlast⟩:∃x:Int,x=max (place+(mag.log2:Int)-((52:Nat):Int)) (-1074):=⟨_,rfl⟩;rw[←hlast];have hk:Ieee.Toward.even.cut false (mag<<<(place-last).toNat) (last-place).toNat≤2^53:=by
   refine cut_le ?_;rw[Nat.shiftLeft_eq];rcases Int.le_total place last with hp|hp
   ·rw[show(place-last).toNat=0 by omega,Nat.pow_zero,Nat.mul_one]
    refine Nat.lt_of_lt_of_le g2 (Nat.pow_le_pow_right (by decide) (by omega))
   ·rw[show(last-place).toNat=0 by omega,Nat.add_zero]
    have h1:mag*2^(place-last).toNat<2^(mag.log2+1)*2^(place-last).toNat:=Nat.mul_lt_mul_of_pos_right g2 (Nat.two_pow_pos _);rw[←Nat.pow_add]at h1;exact Nat.lt_of_lt_of_le h1 (Nat.pow_le_pow_right (by decide) (by omega))
  have hw:∀r:Nat,Fl.D.word false r=r:=fun r=>rfl
  rw[hw];generalize Ieee.Toward.even.cut false (mag<<<(place-last).toNat) (last-place).toNat=kept at hk⊢;have h3:(last- -1074).toNat≤1021:=by omega
  have h4:(last- -1074).toNat*4503599627370496≤1021*4503599627370496:=Nat.mul_le_mul_right _ h3;have h5:(2:Nat)^53=9007199254740992:=rfl;refine Nat.le_trans (Nat.min_le_left _ _) ?_;rw[h5]at hk;clear h5;exact Nat.le_trans (Nat.add_le_add h4 hk) (Nat.le_of_ble_eq_true rfl)
theorem fl_one:fl 1=4607182418800017408:=by kernel_rfl
theorem share_le {h a:Nat} (hle:h≤a) (h1:1≤a) (ha:a<4000):∃q,Fl.D.div (fl h) (fl a)=some q∧q≤4607182418800017408:=by
 obtain⟨k,hk,hr⟩:=fl_read4 (n:=h) (by omega);obtain⟨j,hj,hs⟩:=fl_read4 ha;have hdef:Fl.D.div (fl h) (fl a)=(Ieee.Datum.quotient 54 (Fl.D.read (fl h)) (Fl.D.read (fl a))).map Fl.D.write:=rfl;have hn:a<<<j≠0:=by rw[Nat.shiftLeft_eq];exact Nat.mul_ne_zero (by omega) (Nat.pos_iff_ne_zero.1 (Nat.two_pow_pos j))
 have hq:∀{m n:Nat} {i j:Int},n≠0→Ieee.Datum.quotient 54 (.number false m i) (.number false n j)=some (.number (false^^false) (2*(m<<<(54+n.log2-m.log2)/n)+(m<<<(54+n.log2-m.log2)%n !=0).toNat) (i-j-((54+n.log2-m.log2:Nat):Int)-1)):=by
  intro m n i j hn;show(if n=0 then _ else _)=_;rw[if_neg hn]
 have hx:(false^^false)=false:=rfl;rcases Nat.lt_or_eq_of_le hle with hlt|heq
 ·rw[hdef,hr,hs,hq hn,hx]
  refine⟨_,rfl,?_⟩;show Fl.D.nearest false _ _≤_
  by_cases h0:h=0
  ·subst h0
   have e0:(0<<<k:Nat)=0:=by rw[Nat.shiftLeft_eq,Nat.zero_mul]
   rw[e0];have e1:∀x:Nat,(0<<<x:Nat)=0:=fun x=>by rw[Nat.shiftLeft_eq,Nat.zero_mul]
   rw[e1,Nat.zero_div,Nat.zero_mod];have:∀p:Int,Fl.D.nearest false (2*0+(0 !=0).toNat) p=0:=fun p=>by
    show Fl.D.nearest false 0 p=0;unfold Ieee.Format.nearest;rw[if_pos rfl];rfl
   rw[this];decide
  ·have lm:(h<<<k).log2=h.log2+k:=by
    have g1:2^h.log2≤h:=Nat.log2_self_le h0;have g2:h<2^(h.log2+1):=Nat.lt_log2_self;have hne:h<<<k≠0:=by rw[Nat.shiftLeft_eq];exact Nat.mul_ne_zero h0 (Nat.pos_iff_ne_zero.1 (Nat.two_pow_pos k))
    apply Nat.le_antisymm
    ·apply Nat.le_of_lt_succ
     rw[Nat.log2_lt hne,Nat.shiftLeft_eq,Nat.succ_eq_add_one,show h.log2+k+1=(h.log2+1)+k from by omega,Nat.pow_add];exact Nat.mul_lt_mul_of_pos_right g2 (Nat.two_pow_pos k)
    ·rw[Nat.le_log2 hne,Nat.shiftLeft_eq,Nat.pow_add]
     exact Nat.mul_le_mul_right _ g1
   have la:(a<<<j).log2=a.log2+j:=by
    have g1:2^a.log2≤a:=Nat.log2_self_le (by omega);have g2:a<2^(a.log2+1):=Nat.lt_log2_self;apply Nat.le_antisymm
    ·apply Nat.le_of_lt_succ
     rw[Nat.log2_lt hn,Nat.shiftLeft_eq,Nat.succ_eq_add_one,show a.log2+j+1=(a.log2+1)+j from by omega,Nat.pow_add];exact Nat.mul_lt_mul_of_pos_right g2 (Nat.two_pow_pos j)
    ·rw[Nat.le_log2 hn,Nat.shiftLeft_eq,Nat.pow_add]
     exact Nat.mul_le_mul_right _ g1
   have lle:h.log2≤a.log2:=by
    rw[Nat.le_log2 (by omega)];exact Nat.le_trans (Nat.log2_self_le h0) hle
   have hl12:h.log2<12:=(Nat.log2_lt h0).2 (by omega);obtain⟨more,hmore⟩:∃x,x=54+(a<<<j).log2-(h<<<k).log2:=⟨_,rfl⟩;rw[←hmore];rw[lm,la]at hmore
   by_cases hsm:h.log2+k≤54+(a.log2+j)
   ·obtain⟨E,hE⟩:∃E,E+j=k+more:=⟨k+more-j,by omega⟩
    have d1:(h<<<k<<<more)/(a<<<j)=h*2^E/a:=by
     rw[Nat.shiftLeft_eq,Nat.shiftLeft_eq,Nat.shiftLeft_eq,Nat.mul_assoc,←Nat.pow_add,←hE,Nat.pow_add,←Nat.mul_assoc];exact Nat.mul_div_mul_right _ _ (Nat.two_pow_pos j)
    have d2:h*2^E/a<2^E:=by
     rw[Nat.div_lt_iff_lt_mul (by omega),Nat.mul_comm];exact Nat.mul_lt_mul_of_pos_left hlt (Nat.two_pow_pos E)
    rw[d1];generalize((h<<<k<<<more)%(a<<<j)!=0)=b;have hb:b.toNat≤1:=Bool.toNat_le b;obtain⟨mag,hmag⟩:∃x,x=2*(h*2^E/a)+b.toNat:=⟨_,rfl⟩;rw[←hmag];have hm:mag<2^(E+1):=by rw[Nat.pow_succ];omega
    by_cases hm0:mag=0
    ·rw[hm0]
     have:∀p:Int,Fl.D.nearest false 0 p=0:=fun p=>by
      unfold Ieee.Format.nearest;rw[if_pos rfl];rfl
     rw[this];decide
    ·have hl:mag.log2<E+1:=(Nat.log2_lt hm0).2 hm
     exact near_le (by omega)
   ·exfalso
    have hk0:k≤1074:=hk;have:=Nat.log2_self_le h0;have hkk:k≤52:=by
     apply Classical.byContradiction;intro hc;have hmag:(Fl.D.read (fl h))=.number false (h<<<k) (-(k:Int)):=hr;have hread:∀w,∀s m p,Fl.D.read w=.number s m p→m<9007199254740992:=by
      intro w s m p hw;unfold Ieee.Format.read at hw;have hb:Fl.D.binade=4503599627370496:=Fl.bn;simp only[hb]at hw
      split at hw
      ·cases hw;omega
      ·split at hw
       ·cases hw;omega
       ·split at hw<;>cases hw
     have h5:=hread _ _ _ _ hmag;rw[Nat.shiftLeft_eq]at h5;have h6:2^53≤2^k:=Nat.pow_le_pow_right (by decide) (by omega);have h7:1*2^k≤h*2^k:=Nat.mul_le_mul_right _ (by omega);have h8:(2:Nat)^53=9007199254740992:=rfl;omega
    omega
 ·subst heq
  rw[hdef,hr,hq (by rw[Nat.shiftLeft_eq];exact Nat.mul_ne_zero (by omega) (Nat.pos_iff_ne_zero.1 (Nat.two_pow_pos k))),hx];refine⟨_,rfl,?_⟩;show Fl.D.nearest false _ _≤_;have hpos:0<h<<<k:=by rw[Nat.shiftLeft_eq];exact Nat.mul_pos (by omega) (Nat.two_pow_pos k)
  rw[Nat.add_sub_cancel];have e1:(h<<<k)<<<54/(h<<<k)=1<<<54:=by
   rw[Nat.shiftLeft_eq (h<<<k) 54,Nat.mul_comm,Nat.mul_div_cancel _ hpos,Nat.shiftLeft_eq,Nat.one_mul]
  have e2:(h<<<k)<<<54%(h<<<k)=0:=by rw[Nat.shiftLeft_eq (h<<<k) 54,Nat.mul_mod_right]
  rw[e1,e2];have e3:(2*(1<<<54)+((0:Nat)!=0).toNat)=1<<<55:=by decide
  have e4:(-(k:Int)- -(k:Int)-((54:Nat):Int)-1)= -((55:Nat):Int):=by omega
  rw[e3,e4,near_shift (by decide) (by decide) (by decide),←fl_near,fl_one];exact Nat.le_refl _
end Go.Proofs.YtiahijhpjloijaaGreat.V

