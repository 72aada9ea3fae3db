/- Parts of the proof, put together: Q5, Q6, Q7, Q8. -/
import Derived.Test.YtiahijhpjloijaaGreatM8
set_option linter.unusedVariables false
set_option linter.unusedSimpArgs false
namespace Go.Proofs.YtiahijhpjloijaaGreat.V
open Go
abbrev Oracle2:=Nat→List GD→List GO→Option (GD×List GO)
noncomputable def gpure (ds:List GD):List GO→Option (List GO×List GD):=
 List.rec (fun hp=>some (hp,[])) (fun d _ ih hp=>match d with
  | .one g=>match frz 8 hp g with
    |some (hp,u)=>match ih hp with|some (hp,ds)=>some (hp,.one (.v u)::ds)|none=>none
    |none=>none
  | .ag l=>match frs (frz 8) l hp with
    |some (hp,us)=>match ih hp with|some (hp,ds)=>some (hp,.ag (mapsV us)::ds)|none=>none
    |none=>none
  | .tup _=>none) ds
noncomputable def gargs (hp:List GO) (ds:List GD):Option (List GO×List GD×Option Nat×List GO):=
 match ds with
 | .one (.loc i 0)::t=>match nth hp i with
   |some (.ob e false cs)=>match frs (frz 8) cs hp with
    |some (hp1,us)=>match nth hp1 i with
     |some (.ob _ false _)=>match gpure t (setO hp1 i (.ob e false (mapsV us)))with
      |some (hp2,ds')=>match nth hp2 i with
       |some (.ob _ false _)=>some (hp2,.one (.loc 0 0)::ds',some i,[.ob e false (mapsV us)])
       |_=>none
      |none=>none
     |_=>none
    |none=>none
   |_=>none
 |ds=>match gpure ds hp with|some (hp1,ds1)=>some (hp1,ds1,none,[])|none=>none
noncomputable def rn (ptr:Option Nat) (base j:Nat):Nat:=
 match ptr with
 |some i=>Nat.rec i (fun j _=>base+j) j
 |none=>base+j
noncomputable def renG (σ:Nat→Nat) (g:G):G:=
 match g with
 | .own i k n=>.own (σ i) k n
 | .loc i o=>.loc (σ i) o
 |g=>g
noncomputable def renGX (σ:Nat→Nat) (x:GX):GX:=match x with| .one g=>.one (renG σ g)| .ag l=>.ag (maps (renG σ) l)
noncomputable def renGD (σ:Nat→Nat) (d:GD):GD:=match d with| .one g=>.one (renG σ g)| .ag l=>.ag (maps (renG σ) l)| .tup l=>.tup (maps (renGX σ) l)
noncomputable def renGO (σ:Nat→Nat) (o:GO):GO:=match o with| .ob e fr cs=>.ob e fr (maps (renG σ) cs)| .dead=>.dead
noncomputable def gback (hp1:List GO) (ptr:Option Nat) (d:GD) (H':List GO):Option (GD×List GO):=
 match ptr,H' with
 |some i,o::t=>some (renGD (rn (some i) (len hp1)) d,app (setO hp1 i (renGO (rn (some i) (len hp1)) o)) (maps (renGO (rn (some i) (len hp1))) t))
 |some _,[]=>none
 |none,H'=>some (renGD (rn none (len hp1)) d,app hp1 (maps (renGO (rn none (len hp1))) H'))
noncomputable def gcall (O2:Oracle2) (f:Nat) (ds:List GD) (hp:List GO):Option (GD×List GO):=
 match gargs hp ds with
 |some (hp1,ds1,ptr,H0)=>match O2 f ds1 H0 with
  |some (d,H')=>gback hp1 ptr d H'
  |none=>none
 |none=>none
def Low (hp:Tr Ob) (nx:Pos):Prop:=∀p,Tr.get p hp≠none→p.num<nx.num
def Good2 (O2:Oracle2) (O:Oracle):Prop:=∀f ds H d H',O2 f ds H=some (d,H')→∀E hp nx Ds,RH E H hp→Al (RD E hp) ds Ds→Low hp nx→
 ∃D hp' nx' E',O f Ds hp nx=some (D,hp',nx')∧RD E' hp' d D∧RH E' H' hp'∧Fra E E' hp hp' (fun p=>nx.num≤p.num)∧Low hp' nx'∧nx.num≤nx'.num
section
variable{hp:Tr Ob}
theorem gpure_ok:∀{ds:List GD} {E:En2} {l l':List GO} {ds':List GD},RH E l hp→gpure ds l=some (l',ds')→∀{Ds:List D},Al (RD E hp) ds Ds→
 ∃E',FrOk E E' l l' hp∧∀Ec:En2,(∀p,E'.fz p→Ec.fz p)→Al (RD Ec hp) ds' Ds
 |[],E,l,l',ds',h,hf,Ds,ha=>by
  cases ha
  have hf:some (l,([]:List GD))=some (l',ds'):=hf
  cases hf
  exact⟨E,.refl h,fun _ _=>.nil⟩
 | .one g::t,E,l,l',ds',h,hf,Ds,ha=>by
   cases ha with
   |@cons _ D1 _ Ds1 h1 h2=>
    have hf:(match frz 8 l g with
     |some (hp,u)=>match gpure t hp with|some (hp,ds)=>some (hp,GD.one (.v u)::ds)|none=>none
     |none=>none)=some (l',ds'):=hf
    split at hf
    ·rename_i l1 u hu
     split at hf
     ·rename_i l2 ds2 hds
      cases hf
      cases D1 with
      |ag _=>exact h1.elim
      |tup _=>exact h1.elim
      |one c=>
       obtain⟨E1,k1,k2⟩:=frz_ok h hu h1;obtain⟨E2,k3,k4⟩:=gpure_ok k1.rh hds (h2.imp fun _ _=>RD_mono (k1.fra (fun _=>True)).more);refine⟨E2,k1.trans k3,fun Ec hEc=>.cons ?_ (k4 Ec hEc)⟩;exact RU_mono (fun p hp'=>⟨hEc p ((k3.fra (fun _=>True)).more.st p hp').1,fun o ho=>ho⟩) u k2
     ·cases hf
    ·cases hf
 | .ag m::t,E,l,l',ds',h,hf,Ds,ha=>by
   cases ha with
   |@cons _ D1 _ Ds1 h1 h2=>
    have hf:(match frs (frz 8) m l with
     |some (hp,us)=>match gpure t hp with|some (hp,ds)=>some (hp,GD.ag (mapsV us)::ds)|none=>none
     |none=>none)=some (l',ds'):=hf
    split at hf
    ·rename_i l1 us hu
     split at hf
     ·rename_i l2 ds2 hds
      cases hf
      cases D1 with
      |one _=>exact h1.elim
      |tup _=>exact h1.elim
      |ag cs=>
       obtain⟨E1,k1,k2⟩:=frs_ok (fun a b=>frz_ok a b) h hu h1;obtain⟨E2,k3,k4⟩:=gpure_ok k1.rh hds (h2.imp fun _ _=>RD_mono (k1.fra (fun _=>True)).more);refine⟨E2,k1.trans k3,fun Ec hEc=>.cons ?_ (k4 Ec hEc)⟩;show Al (RG Ec hp) _ _;rw[mapsV_eq];exact Al_v (AlRU_mono (fun p hp'=>⟨hEc p ((k3.fra (fun _=>True)).more.st p hp').1,fun o ho=>ho⟩) k2)
     ·cases hf
    ·cases hf
 | .tup m::t,E,l,l',ds',h,hf,Ds,ha=>by cases hf
theorem seen_ok {E:En2} {l:List GO} (h:RH E l hp) {i:Nat} {p:Pos} {e e0:Nat} {fr:Bool} {cs cs2:List G} {cs':List C} (hi:l[i]?=some (.ob e0 fr cs)) (hp':E.φ i=some p) (hg:Tr.get p hp=some (.ob e cs')) (hc:Al (RG E hp) cs2 cs'):
 RH E (setO l i (.ob e fr cs2)) hp:=by
 have hil:=lt_of_get hi;obtain⟨p',cs0,h1,h2,h3,h4⟩:=h.ob i e0 fr cs hi;rw[hp']at h1;cases h1;refine⟨?_,h.inj,?_,h.ex,h.fzd,?_,fun j hj=>h.tot j (by rw[setO_len]at hj;exact hj)⟩
 ·intro j e1 fr1 cs1 hj
  rw[setO_get hil]at hj
  split at hj
  ·rename_i hji;subst hji
   cases hj
   exact⟨p,cs',hp',hg,hc,h4⟩
  ·exact h.ob j e1 fr1 cs1 hj
 ·intro j q hj;rw[setO_len];exact h.dom j q hj
 ·intro j q hj hq
  obtain⟨e1,cs1,k⟩:=h.own j q hj hq
  by_cases hji:j=i
  ·subst hji
   rw[hi]at k;cases k;exact⟨e,cs2,by rw[setO_get hil,if_pos rfl]⟩
  ·exact⟨e1,cs1,by rw[setO_get hil,if_neg hji];exact k⟩
def cal (E:En2) (ptr:Option Nat):En2:=⟨fun j=>if j=0 then ptr.bind E.φ else none,E.fz⟩
structure ArgOk (E E1:En2) (l l1:List GO) (hp:Tr Ob) (ds1:List GD) (Ds:List D) (ptr:Option Nat) (H0:List GO):Prop where
 rh:RH E1 l1 hp
 φ:E1.φ=E.φ
 len:l1.length=l.length
 fra:∀new,Fra E E1 hp hp new
 crh:RH (cal E1 ptr) H0 hp
 args:Al (RD (cal E1 ptr) hp) ds1 Ds
 ptr:∀i,ptr=some i→∃e cs,l1[i]?=some (.ob e false cs)
theorem gargs_ok {E:En2} {l l1:List GO} {ds ds1:List GD} {ptr:Option Nat} {H0:List GO} (h:RH E l hp) (hf:gargs l ds=some (l1,ds1,ptr,H0)) {Ds:List D} (ha:Al (RD E hp) ds Ds):
 ∃E1,ArgOk E E1 l l1 hp ds1 Ds ptr H0:=by
 unfold gargs at hf
 split at hf
 ·rename_i i t
  split at hf
  case h_2=>cases hf
  rename_i e cs hi
  split at hf
  case h_2=>cases hf
  rename_i l2 us hus
  split at hf
  case h_2=>cases hf
  rename_i e2 cs2 hi2
  split at hf
  case h_2=>cases hf
  rename_i l3 ds' hds
  split at hf
  case h_2=>cases hf
  rename_i e3 cs3 hi3
  cases hf
  rw[nth_eq]at hi hi2 hi3
  cases ha with
  |@cons _ D1 _ Ds1 h1 h2=>
   cases D1 with
   |ag _=>exact h1.elim
   |tup _=>exact h1.elim
   |one c=>
    obtain⟨p,hp1,rfl⟩:=h1;obtain⟨p',cs',q1,q2,q3,q4⟩:=h.ob i e false cs hi;rw[hp1]at q1;cases q1;obtain⟨E1,k1,k2⟩:=frs_ok (fun a b=>frz_ok a b) h hus q3;have hE1:E1.φ i=some p:=by rw[k1.φ];exact hp1
    have hv:Al (RG E1 hp) (mapsV us) cs':=by rw[mapsV_eq];exact Al_v k2
    have r1:=seen_ok k1.rh hi2 hE1 q2 hv;obtain⟨E2,m1,m2⟩:=gpure_ok r1 hds (h2.imp fun _ _=>RD_mono (k1.fra (fun _=>True)).more);have hE2:E2.φ i=some p:=by rw[m1.φ];exact hE1
    have hil2:=lt_of_get hi2;obtain⟨cs0,fr0,n1,n2⟩:=m1.st i e3 false cs3 hi3;rw[setO_get hil2,if_pos rfl]at n1
    cases n1
    have n2:mapsV us=cs3:=by
     rcases n2 with n2|⟨_,n2⟩
     ·cases n2
     ·exact n2
    subst n2;have hnf:¬E2.fz p:=fun hf=>by
     obtain⟨e5,cs5,k⟩:=m1.rh.own i p hE2 hf;rw[hi3]at k;cases k
    have hvs:Al (RU E2.fz hp) us cs':=AlRU_mono (m1.fra (fun _=>True)).more.st k2;have hc0:(cal E2 (some i)).φ 0=some p:=by show(if(0:Nat)=0 then(some i).bind E2.φ else none)=_;rw[if_pos rfl];exact hE2
    have hcφ:∀j q,(cal E2 (some i)).φ j=some q→j=0∧q=p:=by
     intro j q hj
     by_cases h0:j=0
     ·subst h0;rw[hc0]at hj;cases hj;exact⟨rfl,rfl⟩
     ·have hj:(if j=0 then(some i).bind E2.φ else none)=some q:=hj
      rw[if_neg h0]at hj;cases hj
    refine⟨E2,m1.rh,m1.φ.trans k1.φ,?_,fun new=>(k1.fra new).trans (m1.fra new),⟨?_,?_,?_,?_,m1.rh.fzd,?_,?_⟩,.cons ⟨p,hc0,rfl⟩ (m2 _ fun _ h=>h),?_⟩
    ·rw[m1.len,setO_len,k1.len]
    ·intro j e5 fr5 cs5 hj
     have hj0:j=0:=by have:=lt_of_get hj;simpa using this
     subst hj0
     cases hj
     refine⟨p,cs',hc0,q2,?_,⟨(fun h=>by cases h),fun h=>absurd h hnf⟩⟩;rw[mapsV_eq];exact Al_v (E:=cal E2 (some i)) hvs
    ·intro j j' q hj hj';rw[(hcφ j q hj).1,(hcφ j' q hj').1]
    ·intro j q hj;rw[(hcφ j q hj).1];exact Nat.zero_lt_one
    ·intro j q hj;rw[(hcφ j q hj).2,q2];exact Option.some_ne_none _
    ·intro j q hj hq;rw[(hcφ j q hj).2]at hq;exact absurd hq hnf
    ·intro j hj;exact⟨p,by rw[show j=0 from by simpa using hj];exact hc0⟩
    ·intro j hj;cases hj;exact⟨e,mapsV us,hi3⟩
 ·split at hf
  ·rename_i l2 ds2 hds
   cases hf
   obtain⟨E2,m1,m2⟩:=gpure_ok h hds ha;have hc0:∀j,(cal E2 none).φ j=none:=by
    intro j;show(if j=0 then(none:Option Nat).bind E2.φ else none)=none
    split<;>rfl
   refine⟨E2,m1.rh,m1.φ,m1.len,m1.fra,⟨?_,?_,?_,?_,m1.rh.fzd,?_,?_⟩,m2 _ fun _ h=>h,?_⟩
   ·intro j e5 fr5 cs5 hj;cases hj
   ·intro j j' q hj;rw[hc0]at hj;cases hj
   ·intro j q hj;rw[hc0]at hj;cases hj
   ·intro j q hj;rw[hc0]at hj;cases hj
   ·intro j q hj;rw[hc0]at hj;cases hj
   ·intro j hj;cases hj
   ·intro j hj;cases hj
  ·cases hf
theorem renG_ok {E E':En2} {σ:Nat→Nat} (hφ:∀j p,E.φ j=some p→E'.φ (σ j)=some p) (hfz:∀p,E.fz p→E'.fz p):∀{g:G} {c:C},RG E hp g c→RG E' hp (renG σ g) c
 | .v u,c,e=>RU_mono (fun p h=>⟨hfz p h,fun _ h=>h⟩) u e
 | .own i k n,c,⟨p,h1,h2⟩=>⟨p,hφ i p h1,h2⟩
 | .loc i o,c,⟨p,h1,h2⟩=>⟨p,hφ i p h1,h2⟩
 | .floc l o,c,.inl ⟨p,a,e,all,h1,h2,h3,h4,h5⟩=>.inl ⟨p,a,e,all,h1,hfz p h2,h3,h4,AlRU_mono (fun p h=>⟨hfz p h,fun _ h=>h⟩) h5⟩
 | .floc l o,c,.inr e=>.inr e
theorem Al.maps {α β γ:Type} {R:α→γ→Prop} {S:β→γ→Prop} {f:α→β} (h:∀x y,R x y→S (f x) y):∀{l:List α} {m:List γ},Al R l m→Al S (l.map f) m
 |_,_,.nil=>.nil
 |_,_,.cons a b=>.cons (h _ _ a) (Al.maps h b)
theorem renGD_ok {E E':En2} {σ:Nat→Nat} (hφ:∀j p,E.φ j=some p→E'.φ (σ j)=some p) (hfz:∀p,E.fz p→E'.fz p) {d:GD} {D:D} (h:RD E hp d D):RD E' hp (renGD σ d) D:=by
 have hL:∀{l:List G} {cs:List C},Al (RG E hp) l cs→Al (RG E' hp) (V.maps (renG σ) l) cs:=fun ha=>by rw[maps_eq];exact Al.maps (R:=RG E hp) (fun _ _=>renG_ok hφ hfz) ha
 cases d with
 |one g=>cases D<;>first|exact renG_ok hφ hfz h|exact h.elim
 |ag l=>cases D<;>first|exact hL h|exact h.elim
 |tup l=>
  cases D with
  |one _=>exact h.elim
  |ag _=>exact h.elim
  |tup m=>
   show Al (RX E' hp) (V.maps (renGX σ) l) m;rw[maps_eq];refine Al.maps (fun x y hxy=>?_) h
   cases x<;>cases y<;>first|exact renG_ok hφ hfz hxy|exact hL hxy|exact hxy.elim
def beh (E1 E':En2) (base r:Nat):En2:=⟨fun m=>if m<base then E1.φ m else E'.φ (m-base+r),E'.fz⟩
theorem back_ok {E1 E':En2} {l1 l2 H':List GO} {hp':Tr Ob} {ptr:Option Nat} {r:Nat} (hr:r=(match ptr with|some _=>1|none=>0)) {new:Pos→Prop} (h1:RH E1 l1 hp)
 (hptr:∀i,ptr=some i→∃e cs,l1[i]?=some (.ob e false cs)) (h2:RH E' H' hp') (hF:Fra (cal E1 ptr) E' hp hp' new) (hH:r≤H'.length)
 (hlen:l2.length=l1.length+(H'.length-r)) (hA:∀m,m<l1.length→ptr≠some m→l2[m]?=l1[m]?) (hB:∀i,ptr=some i→∀o,H'[0]?=some o→l2[i]?=some (renGO (rn ptr l1.length) o))
 (hC:∀m,l1.length≤m→∀o,H'[m-l1.length+r]?=some o→l2[m]?=some (renGO (rn ptr l1.length) o)):
 RH (beh E1 E' l1.length r) l2 hp'∧Fra E1 (beh E1 E' l1.length r) hp hp' new∧(∀j p,E'.φ j=some p→(beh E1 E' l1.length r).φ (rn ptr l1.length j)=some p):=by
 have lo:∀m,m<l1.length→(beh E1 E' l1.length r).φ m=E1.φ m:=fun m hm=>by show(if m<l1.length then E1.φ m else _)=_;rw[if_pos hm]
 have hi:∀m,l1.length≤m→(beh E1 E' l1.length r).φ m=E'.φ (m-l1.length+r):=fun m hm=>by show(if m<l1.length then E1.φ m else _)=_;rw[if_neg (by omega)]
 have cφ:∀j p,(cal E1 ptr).φ j=some p→j=0∧∃i,ptr=some i∧E1.φ i=some p:=by
  intro j p hj;have hj:(if j=0 then ptr.bind E1.φ else none)=some p:=hj
  split at hj
  ·rename_i h0
   cases hp1:ptr with
   |none=>rw[hp1]at hj;cases hj
   |some i=>rw[hp1]at hj;exact⟨h0,i,rfl,hj⟩
  ·cases hj
 have hptr0:∀i,ptr=some i→∃p,E1.φ i=some p∧E'.φ 0=some p∧r=1∧i<l1.length:=by
  intro i hi;obtain⟨e,cs,h⟩:=hptr i hi;obtain⟨p,hp⟩:=h1.tot i (lt_of_get h);refine⟨p,hp,hF.more.φ 0 p ?_,by rw[hr,hi],lt_of_get h⟩;show(if(0:Nat)=0 then ptr.bind E1.φ else none)=some p;rw[if_pos rfl,hi];exact hp
 have hidx:∀m p,E'.φ (m+r)=some p→Tr.get p hp=none:=by
  intro m p hm;rcases hF.φn _ p hm with h|h
  ·obtain⟨h0,i,hi,_⟩:=cφ _ p h
   have:=(hptr0 i hi).choose_spec.2.2.1;omega
  ·exact h
 have hrn:∀j p,E'.φ j=some p→(beh E1 E' l1.length r).φ (rn ptr l1.length j)=some p:=by
  intro j p hj
  cases hp1:ptr with
  |none=>
   have r0:r=0:=by rw[hr,hp1]
   show(beh E1 E' l1.length r).φ (l1.length+j)=some p;rw[hi _ (by omega),r0,show l1.length+j-l1.length+0=j from by omega];exact hj
  |some i=>
   obtain⟨q,k1,k2,k3,k4⟩:=hptr0 i hp1
   cases j with
   |zero=>show(beh E1 E' l1.length r).φ i=some p;rw[lo i k4,k1,←k2,hj]
   |succ j=>
    show(beh E1 E' l1.length r).φ (l1.length+j)=some p;rw[hi _ (by omega),k3,show l1.length+j-l1.length+1=j+1 from by omega];exact hj
 have hmore:More E1 (beh E1 E' l1.length r) hp hp':=⟨fun i p hip=>by rw[lo i (h1.dom i p hip)];exact hip,fun p hp=>hF.more.st p hp⟩;have hfz:∀p,E'.fz p→(beh E1 E' l1.length r).fz p:=fun _ h=>h
 have fzi:∀m p,m<l1.length→E1.φ m=some p→E'.fz p→E1.fz p∨ptr=some m:=by
  intro m p hm hmp hf;rcases hF.fzn p hf with h|⟨j,h⟩|h
  ·exact .inl h
  ·obtain⟨_,i,hi,hip⟩:=cφ j p h
   rw[h1.inj m i p hmp hip];exact .inr hi
  ·exact absurd h (h1.ex m p hmp)
 have hren:∀{cs:List G} {cs':List C},Al (RG E' hp') cs cs'→Al (RG (beh E1 E' l1.length r) hp') (V.maps (renG (rn ptr l1.length)) cs) cs':=fun ha=>by
  rw[maps_eq];exact Al.maps (R:=RG E' hp') (fun _ _=>renG_ok hrn hfz) ha
 have low:∀m,m<l1.length→∀o,l2[m]?=some o→(ptr≠some m∧l1[m]?=some o)∨(ptr=some m∧∃o',H'[0]?=some o'∧o=renGO (rn ptr l1.length) o'):=by
  intro m hm o ho
  by_cases hpm:ptr=some m
  ·have r1:=(hptr0 m hpm).choose_spec.2.2.1
   have:0<H'.length:=by omega
   have h0:H'[0]?=some H'[0]:=List.getElem?_eq_getElem this;have:=hB m hpm _ h0;rw[this]at ho;cases ho;exact .inr ⟨hpm,_,h0,rfl⟩
  ·rw[hA m hm hpm]at ho;exact .inl ⟨hpm,ho⟩
 have high:∀m,l1.length≤m→∀o,l2[m]?=some o→∃o',H'[m-l1.length+r]?=some o'∧o=renGO (rn ptr l1.length) o':=by
  intro m hm o ho;have hml:=lt_of_get ho;have:m-l1.length+r<H'.length:=by omega
  have h0:H'[m-l1.length+r]?=some H'[m-l1.length+r]:=List.getElem?_eq_getElem this;have:=hC m hm _ h0;rw[this]at ho;cases ho;exact⟨_,h0,rfl⟩
 refine⟨⟨?_,?_,?_,?_,h2.fzd,?_,?_⟩,⟨hmore,?_,hF.ex,hF.new,?_,?_⟩,hrn⟩
 ·intro m e fr cs hm
  rcases Nat.lt_or_ge m l1.length with hml|hml
  ·rcases low m hml _ hm with⟨hpm,h⟩|⟨hpm,o',ho',heq⟩
   ·obtain⟨p,cs',k1,k2,k3,k4⟩:=h1.ob m e fr cs h
    refine⟨p,cs',by rw[lo m hml];exact k1,?_,AlRG_mono hmore k3,k4.trans ⟨fun hf=>(hF.more.st p hf).1,fun hf=>?_⟩⟩
    ·rw[hF.keep p (h1.ex m p k1)];· exact k2
     intro j hj;obtain⟨_,i,hi,hip⟩:=cφ j p hj;rw[h1.inj m i p k1 hip]at hpm;exact hpm hi
    ·rcases fzi m p hml k1 hf with h|h
     ·exact h
     ·exact absurd h hpm
   ·obtain⟨q,k1,k2,k3,k4⟩:=hptr0 m hpm
    cases o' with
    |dead=>cases heq
    |ob e' fr' cs2=>
     obtain⟨p,cs',m1,m2,m3,m4⟩:=h2.ob 0 e' fr' cs2 ho';rw[k2]at m1;cases m1
     cases heq
     exact⟨q,cs',by rw[lo m hml];exact k1,m2,hren m3,m4⟩
  ·obtain⟨o',ho',heq⟩:=high m hml _ hm
   cases o' with
   |dead=>cases heq
   |ob e' fr' cs2=>
    obtain⟨p,cs',m1,m2,m3,m4⟩:=h2.ob _ e' fr' cs2 ho'
    cases heq
    exact⟨p,cs',by rw[hi m hml];exact m1,m2,hren m3,m4⟩
 ·intro m m' p hm hm'
  rcases Nat.lt_or_ge m l1.length with hml|hml<;>rcases Nat.lt_or_ge m' l1.length with hml'|hml'
  ·rw[lo m hml]at hm;rw[lo m' hml']at hm';exact h1.inj m m' p hm hm'
  ·rw[lo m hml]at hm;rw[hi m' hml']at hm';exact absurd (hidx _ p hm') (h1.ex m p hm)
  ·rw[hi m hml]at hm;rw[lo m' hml']at hm';exact absurd (hidx _ p hm) (h1.ex m' p hm')
  ·rw[hi m hml]at hm;rw[hi m' hml']at hm'
   have:=h2.inj _ _ p hm hm';omega
 ·intro m p hm
  rcases Nat.lt_or_ge m l1.length with hml|hml
  ·omega
  ·rw[hi m hml]at hm
   have:=h2.dom _ p hm;omega
 ·intro m p hm
  rcases Nat.lt_or_ge m l1.length with hml|hml
  ·rw[lo m hml]at hm;exact hF.ex p (h1.ex m p hm)
  ·rw[hi m hml]at hm;exact h2.ex _ p hm
 ·intro m p hm hf
  rcases Nat.lt_or_ge m l1.length with hml|hml
  ·rw[lo m hml]at hm
   by_cases hpm:ptr=some m
   ·obtain⟨q,k1,k2,k3,k4⟩:=hptr0 m hpm
    rw[hm]at k1;cases k1;obtain⟨e,cs,h⟩:=h2.own 0 p k2 hf;exact⟨e,_,hB m hpm _ h⟩
   ·rcases fzi m p hml hm hf with h|h
    ·obtain⟨e,cs,h⟩:=h1.own m p hm h
     exact⟨e,cs,by rw[hA m hml hpm];exact h⟩
    ·exact absurd h hpm
  ·rw[hi m hml]at hm
   obtain⟨e,cs,h⟩:=h2.own _ p hm hf;exact⟨e,_,hC m hml _ h⟩
 ·intro m hm
  rcases Nat.lt_or_ge m l1.length with hml|hml
  ·obtain⟨p,h⟩:=h1.tot m hml;exact⟨p,by rw[lo m hml];exact h⟩
  ·obtain⟨p,h⟩:=h2.tot (m-l1.length+r) (by omega);exact⟨p,by rw[hi m hml];exact h⟩
 ·intro p hp hn
  refine hF.keep p hp fun j hj=>?_
  obtain⟨_,i,_,hip⟩:=cφ j p hj;exact hn i hip
 ·intro m p hm
  rcases Nat.lt_or_ge m l1.length with hml|hml
  ·rw[lo m hml]at hm;exact .inl hm
  ·rw[hi m hml]at hm;exact .inr (hidx _ p hm)
 ·intro p hf
  rcases hF.fzn p hf with h|⟨j,h⟩|h
  ·exact .inl h
  ·obtain⟨_,i,_,hip⟩:=cφ j p h;exact .inr (.inl ⟨i,hip⟩)
  ·exact .inr (.inr h)
structure CallOk (O:Oracle) (f:Nat) (Ds:List D) (nx:Pos) (E:En2) (l:List GO) (hp:Tr Ob) (d:GD) (l':List GO) (ptr:Option Nat):Prop where
 ok:∃D hp' nx' E',O f Ds hp nx=some (D,hp',nx')∧RD E' hp' d D∧RH E' l' hp'∧Fra E E' hp hp' (fun p=>nx.num≤p.num)∧Low hp' nx'∧nx.num≤nx'.num∧
  (∀p,Tr.get p hp≠none→(∀i,ptr=some i→E.φ i≠some p)→Tr.get p hp'=Tr.get p hp)
noncomputable def gptr (ds:List GD):Option Nat:=match ds with| .one (.loc i 0)::_=>some i|_=>none
theorem gargs_ptr {l l1:List GO} {ds ds1:List GD} {ptr:Option Nat} {H0:List GO} (hf:gargs l ds=some (l1,ds1,ptr,H0)):ptr=gptr ds:=by
 unfold gargs at hf
 split at hf
 ·split at hf
  case h_2=>cases hf
  split at hf
  case h_2=>cases hf
  split at hf
  case h_2=>cases hf
  split at hf
  case h_2=>cases hf
  split at hf
  case h_2=>cases hf
  cases hf;rfl
 ·rename_i hne
  split at hf
  ·cases hf
   unfold gptr
   split
   ·exact absurd rfl (hne _ _)
   ·rfl
  ·cases hf
theorem gargs_ob {l l1:List GO} {ds ds1:List GD} {ptr:Option Nat} {H0:List GO} (hf:gargs l ds=some (l1,ds1,ptr,H0)) {i:Nat} (hi:gptr ds=some i):∃e cs,l[i]?=some (.ob e false cs):=by
 unfold gargs at hf
 split at hf
 ·cases hi
  split at hf
  case h_2=>cases hf
  rename_i e cs hcs;rw[nth_eq]at hcs;exact⟨e,cs,hcs⟩
 ·rename_i hne
  unfold gptr at hi
  split at hi
  ·exact absurd rfl (hne _ _)
  ·cases hi
theorem gcall_ob {O2:Oracle2} {f:Nat} {ds:List GD} {l l':List GO} {d:GD} (hf:gcall O2 f ds l=some (d,l')) {i:Nat} (hi:gptr ds=some i):∃e cs,l[i]?=some (.ob e false cs):=by
 unfold gcall at hf
 split at hf
 ·rename_i h;exact gargs_ob h hi
 ·cases hf
theorem gcall_ok {O2:Oracle2} {O:Oracle} (hG:Good2 O2 O) {f:Nat} {ds:List GD} {l l':List GO} {d:GD} (hf:gcall O2 f ds l=some (d,l')) {E:En2} {Ds:List D} {nx:Pos} (h:RH E l hp) (ha:Al (RD E hp) ds Ds) (hlow:Low hp nx):
 CallOk O f Ds nx E l hp d l' (gptr ds):=by
 unfold gcall at hf
 split at hf
 case h_2=>cases hf
 rename_i l1 ds1 ptr H0 hargs
 split at hf
 case h_2=>cases hf
 rename_i d0 H' hO;obtain⟨E1,a⟩:=gargs_ok h hargs ha;rw[←gargs_ptr hargs];obtain⟨D0,hp',nx',E',b1,b2,b3,b4,b5,b6⟩:=hG f ds1 H0 d0 H' hO _ hp nx Ds a.crh a.args hlow;have keep:∀p,Tr.get p hp≠none→(∀i,ptr=some i→E.φ i≠some p)→Tr.get p hp'=Tr.get p hp:=by
  intro p hp1 hn;refine b4.keep p hp1 fun j hj=>?_
  have hj:(if j=0 then ptr.bind E1.φ else none)=some p:=hj
  split at hj
  ·cases hpt:ptr with
   |none=>rw[hpt]at hj;cases hj
   |some i=>rw[hpt]at hj;rw[a.φ]at hj;exact hn i hpt hj
  ·cases hj
 refine⟨?_⟩;unfold gback at hf
 split at hf
 ·rename_i i o t
  cases hf
  have hil:i<l1.length:=by obtain⟨e,cs,hh⟩:=a.ptr i rfl;exact lt_of_get hh
  rw[len_eq];obtain⟨c1,c2,c3⟩:=back_ok (l2:=app (setO l1 i (renGO (rn (some i) l1.length) o)) (maps (renGO (rn (some i) l1.length)) t)) (r:=1) rfl a.rh a.ptr b3 b4 (by simp)
   (by rw[app_eq,maps_eq,List.length_append,List.length_map,setO_len];simp)
   (fun m hm hne=>by
     rw[app_eq,List.getElem?_append,setO_len,if_pos hm,setO_get hil,if_neg]
     rintro rfl;exact hne rfl)
   (fun j hj o' ho'=>by
     cases hj
     have ho':some o=some o':=ho'
     cases ho'
     rw[app_eq,List.getElem?_append,setO_len,if_pos hil,setO_get hil,if_pos rfl])
   (fun m hm o' ho'=>by
     rw[List.getElem?_cons_succ]at ho';rw[app_eq,List.getElem?_append,setO_len,if_neg (by omega),maps_eq,List.getElem?_map,ho'];rfl)
  exact⟨D0,hp',nx',_,b1,renGD_ok c3 (fun _ h=>h) b2,c1,(a.fra _).trans c2,b5,b6,keep⟩
 ·cases hf
 ·cases hf
  rw[len_eq];obtain⟨c1,c2,c3⟩:=back_ok (l2:=app l1 (maps (renGO (rn none l1.length)) H')) (r:=0) rfl a.rh a.ptr b3 b4 (Nat.zero_le _)
   (by rw[app_eq,maps_eq,List.length_append,List.length_map];omega)
   (fun m hm hne=>by rw[app_eq,List.getElem?_append,if_pos hm])
   (fun j hj o' ho'=>by cases hj)
   (fun m hm o' ho'=>by
     rw[Nat.add_zero]at ho';rw[app_eq,List.getElem?_append,if_neg (by omega),maps_eq,List.getElem?_map,ho'];rfl)
  exact⟨D0,hp',nx',_,b1,renGD_ok c3 (fun _ h=>h) b2,c1,(a.fra _).trans c2,b5,b6,keep⟩
end
end Go.Proofs.YtiahijhpjloijaaGreat.V

namespace Go.Proofs.YtiahijhpjloijaaGreat.V
open Go
noncomputable def gguard (g:Option (Pos×Bool)) (tm:Tr GD):Go3:=
 match g with
 |none=>.run
 |some (p,want)=>match Tr.get p tm with
  |some (.one (.v (.bool b)))=>Bool.rec (Bool.rec .run .skip want) (Bool.rec .skip .run want) b
  |some (.one (.v .un))=>.skip
  |_=>.bad
noncomputable def gput (dst:Option Pos) (d:GD) (tm:Tr GD):Tr GD:=Option.rec tm (fun p=>Tr.set p d tm) dst
noncomputable def gstep1 (P:Program) (O:Oracle2) (i:Ins) (s:GS):Option GS:=
 match gguard i.gd s.tm with
 | .skip=>some {s with tm:=gput i.dst (.one (.v .un)) s.tm}
 | .bad=>none
 | .run=>match i.op with
   | .call f as=>match each (gval s.tm) as with
     |some ds=>match gcall O f ds s.hp with
      |some (d,hp)=>some {tm:=gput i.dst d s.tm,hp:=hp}
      |none=>none
     |none=>none
   |op=>match grd P op s.tm s.hp with
    |some (d,hp)=>some {tm:=gput i.dst d s.tm,hp:=hp}
    |none=>none
noncomputable def gsteps (P:Program) (O:Oracle2) (l:List Ins):GS→Option GS:=
 List.rec (fun s=>some s) (fun i _ ih s=>Option.rec none (fun s=>ih s) (gstep1 P O i s)) l
abbrev Acc2:=Bool×Option Nat×Option (Nat×Nat)
inductive Ft2 where
 |acc (l:List Acc2)
 |call (h0:List GO) (n1:Nat) (ptr:Option Nat)
noncomputable def gaccG (w:Bool):G→List Acc2
 | .own i _ _=>[(w,some i,none)]
 | .v (.fz _ _ _)=>[(w,none,none)]
 |_=>[]
noncomputable def gaccY (tm:Tr GD) (y:A):List Acc2:=match gcel tm y with|some c=>gaccG false c|none=>[]
noncomputable def gnewE (n:Nat) (nw:Bool):List Acc2:=Bool.rec [] [(true,some n,none)] nw
noncomputable def gaccX (n:Nat) (nw:Bool) (tm:Tr GD) (x:A):List Acc2:=app (gnewE n nw) (match gcel tm x with|some c=>gaccG true c|none=>[])
noncomputable def gfoot (n:Nat) (nw:Bool) (i:I) (tm:Tr GD):List Acc2:=
 match i with
 | .alloc .. | .box .. | .bsl .. | .mk .. | .s2b .. =>gnewE n nw
 | .ld k _ a=>match gcel tm a with|some (.loc i off)=>[(false,some i,some (off,k))]|some (.floc _ _)=>[(false,none,none)]|_=>[]
 | .st k a _=>match gcel tm a with|some (.loc i off)=>[(true,some i,some (off,k))]|_=>[]
 | .ap _ _ _ x y=>app (gaccX n nw tm x) (gaccY tm y)
 | .aps _ _ x _=>gaccX n nw tm x
 | .apz _ _ _ _ x _=>gaccX n nw tm x
 | .b2s x=>gaccY tm x
 |_=>[]
noncomputable def gft (i:Ins) (s s':GS):Ft2:=
 match gguard i.gd s.tm with
 | .run=>match i.op with
   | .call _ as=>match each (gval s.tm) as with
     |some ds=>.call s.hp (len s'.hp) (gptr ds)
     |none=>.acc []
   |op=>.acc (gfoot (len s.hp) (Nat.ble (Nat.succ (len s.hp)) (len s'.hp)) op s.tm)
 |_=>.acc []
noncomputable def gstepsF (P:Program) (O:Oracle2) (l:List (Nat×Ins)):GS→List Ft2→Option (GS×List Ft2):=
 List.rec (fun s fs=>some (s,fs)) (fun i _ ih s fs=>Option.rec none (fun s'=>ih s' (gft i.2 s s'::fs)) (gstep1 P O i.2 s)) l
noncomputable def ofr (hp:List GO) (i:Nat):Bool:=match nth hp i with|some (.ob _ fr _)=>fr|some .dead=>false|none=>true
noncomputable def oob (hp:List GO) (i:Nat):Bool:=match nth hp i with|some (.ob _ _ _)=>true|_=>false
noncomputable def gclash (hp:List GO) (x y:Acc2):Bool:=
 match x,y with
 |(v,some i,r),(w,some j,s)=>Bool.rec false (Bool.rec false (Bool.rec true false (apartR r s)) (Nat.beq i j)) (Bool.rec w true v)
 |(v,some i,_),(w,none,_)=>Bool.rec w (ofr hp i) v
 |(v,none,_),(_,some _,_)=>v
 |(v,none,_),(w,none,_)=>Bool.rec w true v
noncomputable def ptrNe (ptr:Option Nat) (i:Nat):Bool:=match ptr with|some j=>Bool.rec true false (Nat.beq i j)|none=>true
noncomputable def gleave (b:Bool) (h0:List GO) (n1:Nat) (ptr:Option Nat) (x:Acc2):Bool:=
 match x with
 |(true,_,_)=>true
 |(false,none,_)=>b
 |(false,some i,_)=>Bool.rec (Bool.rec (Nat.ble n1 i) false b) true (Bool.rec false (Bool.rec false (ptrNe ptr i) (oob h0 i)) (Nat.ble (Nat.succ i) (len h0)))
noncomputable def gclashes (hp:List GO) (x y:Ft2):Bool:=
 match x,y with
 | .acc l,.acc m=>any (fun x=>any (fun y=>gclash hp x y) m) l
 | .acc m,.call a n p=>Bool.rec true false (all (gleave true a n p) m)
 | .call a n p,.acc m=>Bool.rec true false (all (gleave false a n p) m)
 | .call _ _ _,.call _ _ _=>true
noncomputable def gokF (hp:List GO) (fs:List Ft2) (n:Nat) (chk:List (Nat×Nat)):Bool:=
 List.rec true (fun p _ ih=>
  match nth fs (n-1-p.1),nth fs (n-1-p.2)with
  |some x,some y=>Bool.rec ih false (Bool.rec true (gclashes hp x y) (Bool.rec false (Nat.ble (Nat.succ p.1) p.2) (Nat.ble (Nat.succ p.2) n)))
  |_,_=>false) chk
theorem num_succ:∀p:Pos,(Pos.succ p).num=p.num+1
 | .h=>rfl
 | .o p=>by show Nat.succ (Nat.mul 2 p.num)=Nat.mul 2 p.num+1;rfl
 | .i p=>by
   show Nat.mul 2 (Pos.succ p).num=Nat.succ (Nat.mul 2 p.num)+1;rw[num_succ p];show 2*(p.num+1)=2*p.num+1+1;omega
theorem num_plus:∀(n:Nat) (p:Pos),(Pos.plus n p).num=p.num+n
 |0,p=>rfl
 |n+1,p=>by
  show(Pos.succ (Pos.plus n p)).num=_;rw[num_succ,num_plus n p];omega
structure RB (base:Pos) (na:Nat) (todo:Nat→Prop) (E:En2) (g:GS) (s:St):Prop where
 tm:RT E s.hp g.tm s.tm
 hp:RH E g.hp s.hp
 low:Low s.hp s.nx
 nx:base.num+na≤s.nx.num
 free:∀r,r<na→todo r→Tr.get (Pos.plus r base) s.hp=none
section
variable{P:Program} {O2:Oracle2} {O:Oracle}
theorem gguard_ok {E:En2} {hp:Tr Ob} {g:Tr GD} {tm:Tr D} (hT:RT E hp g tm) {gd:Option (Pos×Bool)} (h:gguard gd g≠.bad):guard gd tm=gguard gd g:=by
 cases gd with
 |none=>rfl
 |some z=>
  obtain⟨p,want⟩:=z;simp only[gguard]at h⊢;simp only[guard]
  split at h
  ·rename_i b hb
   obtain⟨d',h1,h2⟩:=hT p _ hb
   cases d' with
   |one c=>have h2:RU E.fz hp (.bool b) c:=h2;rw[RU]at h2;subst h2;rw[h1]
   |ag _=>exact h2.elim
   |tup _=>exact h2.elim
  ·rename_i hb
   obtain⟨d',h1,h2⟩:=hT p _ hb
   cases d' with
   |one c=>have h2:RU E.fz hp .un c:=h2;rw[RU]at h2;subst h2;rw[h1]
   |ag _=>exact h2.elim
   |tup _=>exact h2.elim
  ·exact absurd rfl h
theorem RT_put {E:En2} {hp:Tr Ob} {g:Tr GD} {tm:Tr D} (hT:RT E hp g tm) {dst:Option Pos} {d:GD} {d':D} (h:RD E hp d d'):RT E hp (gput dst d g) (put dst d' tm):=by
 cases dst with
 |none=>exact hT
 |some p=>exact RT_set hT h
theorem gvals_ok {E:En2} {hp:Tr Ob} {g:Tr GD} {tm:Tr D} (hT:RT E hp g tm):∀{as:List A} {ds:List GD},each (gval g) as=some ds→∃Ds,each (val tm) as=some Ds∧Al (RD E hp) ds Ds
 |[],ds,h=>by rw[each_nil]at h;cases h;exact⟨[],rfl,.nil⟩
 |a::as,ds,h=>by
  rw[each_cons]at h
  split at h
  ·rename_i d hd
   split at h
   ·rename_i ds' hds
    cases h
    obtain⟨D1,h1,h2⟩:=gval_ok hT hd;obtain⟨Ds,h3,h4⟩:=gvals_ok hT hds;exact⟨D1::Ds,by rw[each_cons,h1,h3],.cons h2 h4⟩
   ·cases h
  ·cases h
def newS (base:Pos) (x:Ins) (nx:Pos):Pos→Prop:=fun p=>(mkI x.op=true∧p=Pos.plus x.r base)∨nx.num≤p.num
def AccOk (base:Pos) (x:Ins) (E:En2) (hp:Tr Ob) (l:List Acc) (m:List Acc2):Prop:=
 ∀a∈l,(∃b∈m,b.1=a.1∧((∃j,b.2.1=some j∧E.φ j=some a.2.1∧b.2.2=a.2.2)∨(b.2.1=none∧a.1=false∧E.fz a.2.1)))∨
  (a.1=true∧mkI x.op=true∧a.2.1=Pos.plus x.r base∧Tr.get a.2.1 hp=none)
structure CallFt (E:En2) (hp:Tr Ob) (a b:Tr Ob) (h0:List GO) (n1:Nat) (ptr:Option Nat):Prop where
 c1:∀p,Tr.get p a≠none→(∀i,ptr=some i→E.φ i≠some p)→Tr.get p b=Tr.get p a
 c2:∀p,Tr.get p a≠none→Tr.get p b≠none
 c3:∀j p,j<h0.length→E.φ j=some p→Tr.get p a≠none∧∀e fr cs,h0[j]?=some (.ob e fr cs)→∃e cs,Tr.get p a=some (.ob e cs)
 c4:∀j p,n1≤j→E.φ j=some p→Tr.get p b=none
 c6:∀p,Tr.get p b≠none→Tr.get p hp≠none
 c7:∀j,j<h0.length→∃p,E.φ j=some p
 c8:∀i,ptr=some i→∃e cs,h0[i]?=some (.ob e false cs)
def FtOk (base:Pos) (x:Ins) (E:En2) (hp:Tr Ob) (f:Ft) (g:Ft2):Prop:=
 match f,g with
 | .acc l,.acc m=>AccOk base x E hp l m
 | .call a b,.call h0 n1 ptr=>CallFt E hp a b h0 n1 ptr
 |_,_=>False
theorem FtOk.mono {base:Pos} {x:Ins} {E E':En2} {hp hp':Tr Ob} {new:Pos→Prop} (hF:Fra E E' hp hp' new) (hn:mkI x.op=true→¬new (Pos.plus x.r base)) {f:Ft} {g:Ft2} (h:FtOk base x E hp f g):FtOk base x E' hp' f g:=by
 cases f with
 |acc l=>
  cases g with
  |call _ _ _=>exact h.elim
  |acc m=>
   intro a ha;rcases h a ha with⟨b,hb,h1,h2⟩|⟨h0,h1,h2,h3⟩
   ·refine .inl ⟨b,hb,h1,?_⟩
    rcases h2 with⟨j,h2,h3,h4⟩|⟨h2,h3,h4⟩
    ·exact .inl ⟨j,h2,hF.more.φ _ _ h3,h4⟩
    ·exact .inr ⟨h2,h3,(hF.more.st _ h4).1⟩
   ·refine .inr ⟨h0,h1,h2,?_⟩
    by_cases hc:Tr.get a.2.1 hp'=none
    ·exact hc
    ·exact absurd (h2▸hF.new _ h3 hc) (hn h1)
 |call a b=>
  cases g with
  |acc m=>exact h.elim
  |call h0 n1 ptr=>
   have h:CallFt E hp a b h0 n1 ptr:=h;have old:∀j p,j<h0.length→E'.φ j=some p→E.φ j=some p:=by
    intro j p hj hp;obtain⟨q,hq⟩:=h.c7 j hj;have:=hF.more.φ j q hq;rw[hp]at this;cases this;exact hq
   refine⟨fun p hp1 hn=>h.c1 p hp1 fun i hi he=>hn i hi (hF.more.φ i p he),h.c2,fun j p hj hp=>h.c3 j p hj (old j p hj hp),fun j p hj hp=>?_,fun p hp=>hF.ex p (h.c6 p hp),fun j hj=>?_,h.c8⟩
   ·rcases hF.φn j p hp with h1|h1
    ·exact h.c4 j p hj h1
    ·by_cases hc:Tr.get p b=none
     ·exact hc
     ·exact absurd h1 (h.c6 p hc)
   ·obtain⟨p,hp⟩:=h.c7 j hj
    exact⟨p,hF.more.φ j p hp⟩
theorem acc_cons {base:Pos} {x:Ins} {E:En2} {hp:Tr Ob} {a:Acc} {l:List Acc} {m:List Acc2}
 (h1:(∃b∈m,b.1=a.1∧((∃j,b.2.1=some j∧E.φ j=some a.2.1∧b.2.2=a.2.2)∨(b.2.1=none∧a.1=false∧E.fz a.2.1)))∨(a.1=true∧mkI x.op=true∧a.2.1=Pos.plus x.r base∧Tr.get a.2.1 hp=none))
 (h2:AccOk base x E hp l m):AccOk base x E hp (a::l) m:=by
 intro b hb
 cases hb with
 |head=>exact h1
 |tail _ hb=>exact h2 b hb
theorem acc_nil {base:Pos} {x:Ins} {E:En2} {hp:Tr Ob} {m:List Acc2}:AccOk base x E hp [] m:=fun a ha=>by cases ha
theorem acc_more {base:Pos} {x:Ins} {E:En2} {hp:Tr Ob} {l:List Acc} {m m':List Acc2} (h:AccOk base x E hp l m) (hm:∀b∈m,b∈m'):AccOk base x E hp l m':=by
 intro a ha;rcases h a ha with⟨b,hb,r⟩|r
 ·exact .inl ⟨b,hm b hb,r⟩
 ·exact .inr r
theorem accG_ok {base:Pos} {x:Ins} {E:En2} {hp:Tr Ob} {w:Bool} {y:G} {c:C} (hr:RG E hp y c) (hw:w=true→∀k n l,y≠.v (.fz k n l)):AccOk base x E hp (accC w c) (gaccG w y):=by
 cases y with
 |own i k n=>
  obtain⟨p,h1,rfl⟩:=hr;exact acc_cons (.inl ⟨_,List.mem_cons_self,rfl,.inl ⟨i,rfl,h1,rfl⟩⟩) acc_nil
 |loc i o=>obtain⟨p,h1,rfl⟩:=hr;exact acc_nil
 |floc l o=>rcases hr with⟨p,a,e,all,rfl,_⟩|⟨b,a,bs,rfl,_⟩<;>exact acc_nil
 |v u=>
  have hr:RU E.fz hp u c:=hr
  cases u with
  |fz k n l=>
   have hwf:w=false:=by
    cases w with
    |false=>rfl
    |true=>exact absurd rfl (hw rfl k n l)
   subst hwf;rw[RU]at hr;rcases hr with⟨_,_,rfl|rfl⟩|⟨p,e,all,rfl,h2,_⟩|⟨p,off,e,all,rfl,h2,_⟩|⟨b,o,bs,rfl,_⟩
   ·exact acc_nil
   ·exact acc_nil
   ·exact acc_cons (.inl ⟨_,List.mem_cons_self,rfl,.inr ⟨rfl,rfl,h2⟩⟩) acc_nil
   ·exact acc_cons (.inl ⟨_,List.mem_cons_self,rfl,.inr ⟨rfl,rfl,h2⟩⟩) acc_nil
   ·exact acc_nil
  |_=>rw[RU]at hr;subst hr;exact acc_nil
end
end Go.Proofs.YtiahijhpjloijaaGreat.V

namespace Go.Proofs.YtiahijhpjloijaaGreat.V
open Go
section
variable{P:Program} {O2:Oracle2} {O:Oracle}
theorem accC_ok {base:Pos} {x:Ins} {E E':En2} {hp hp':Tr Ob} {g:Tr GD} {tm:Tr D} (hT:RT E hp g tm) (hm:More E E' hp hp') {a:A} {m:List Acc2} {w:Bool} {y:G} (hy:gcel g a=some y) (hw:w=true→∀k n l,y≠.v (.fz k n l))
 (hs:∀b∈gaccG w y,b∈m):∃c,cel tm a=some c∧AccOk base x E' hp' (accC w c) m:=by
 obtain⟨c,h1,h2⟩:=gcel_ok hT hy;exact⟨c,h1,acc_more (accG_ok (RG_mono hm h2) hw) hs⟩
theorem acc_app {base:Pos} {x:Ins} {E:En2} {hp:Tr Ob} {l l':List Acc} {m:List Acc2} (h:AccOk base x E hp l m) (h':AccOk base x E hp l' m):AccOk base x E hp (app l l') m:=by
 intro a ha;rw[app_eq,List.mem_append]at ha;rcases ha with ha|ha
 ·exact h a ha
 ·exact h' a ha
theorem grow_nf {l l':List GO} {e k b m:Nat} {x:G} {cs:List G} {d:GD} (h:ggrow l e k b x m cs=some (d,l')):∀k n us,x≠.v (.fz k n us):=by
 rintro k n us rfl
 cases h
theorem foot_ok {base:Pos} {x:Ins} {E E':En2} {hp hp':Tr Ob} {g:Tr GD} {tm:Tr D} {l l':List GO} {d:GD} (hT:RT E hp g tm) (hm:More E E' hp hp')
 (hdom:∀i p,E'.φ i=some p→i<l'.length) (hf:mkI x.op=true→Tr.get (Pos.plus x.r base) hp'≠none→E'.φ l.length=some (Pos.plus x.r base)) (h:grd P x.op g l=some (d,l')):AccOk base x E' hp' (foot (Pos.plus x.r base) x.op tm) (gfoot (len l) (Nat.ble (Nat.succ (len l)) (len l')) x.op g):=by
 generalize hnw:Nat.ble (Nat.succ (len l)) (len l')=nw;have mk1:∀{m:List Acc2},mkI x.op=true→(∀b∈gnewE l.length nw,b∈m)→AccOk base x E' hp' [(true,Pos.plus x.r base,none)] m:=by
  intro m hx hmem;refine acc_cons ?_ acc_nil
  by_cases hc:Tr.get (Pos.plus x.r base) hp'=none
  ·exact .inr ⟨rfl,hx,rfl,hc⟩
  ·have h1:=hf hx hc
   have h2:=hdom _ _ h1;have h3:nw=true:=by rw[←hnw,ble_iff,len_eq,len_eq];exact h2
   have h4:((true,some l.length,none):Acc2)∈gnewE l.length nw:=by rw[h3];exact List.mem_cons_self
   exact .inl ⟨_,hmem _ h4,rfl,.inl ⟨_,rfl,h1,rfl⟩⟩
 have mkX:∀{a:A} {m:List Acc2},mkI x.op=true→(∀b∈gaccX l.length nw g a,b∈m)→(∃y,gcel g a=some y∧∀k n us,y≠.v (.fz k n us))→AccOk base x E' hp' (accX (Pos.plus x.r base) tm a) m:=by
  rintro a m hx hmem ⟨y,hy,hnf⟩
  unfold accX;have hg:gaccX l.length nw g a=gnewE l.length nw++gaccG true y:=by unfold gaccX;rw[hy,app_eq]
  rw[hg]at hmem;obtain⟨c,h1,h2⟩:=accC_ok (base:=base) (x:=x) hT hm (w:=true) hy (fun _=>hnf) (fun b hb=>hmem b (List.mem_append_right _ hb));rw[h1];refine acc_cons ?_ h2;have:=mk1 hx (fun b hb=>hmem b (List.mem_append_left _ hb));exact this _ List.mem_cons_self
 rw[len_eq]
 cases hop:x.op with
 |alloc e zs=>rw[hop]at mk1;exact mk1 rfl fun b hb=>hb
 |box e k y=>rw[hop]at mk1;exact mk1 rfl fun b hb=>hb
 |bsl e k n zs ps=>rw[hop]at mk1;exact mk1 rfl fun b hb=>hb
 |mk e k n zs=>rw[hop]at mk1;exact mk1 rfl fun b hb=>hb
 |s2b e y=>rw[hop]at mk1;exact mk1 rfl fun b hb=>hb
 |ld k ag a=>
  rw[hop]at h;simp only[grd]at h;simp only[foot,gfoot]
  split at h
  ·rename_i i off ha
   obtain⟨c,h1,p,h2,rfl⟩:=gcel_ok hT ha;rw[h1,ha];exact acc_cons (.inl ⟨_,List.mem_cons_self,rfl,.inl ⟨i,rfl,hm.φ i p h2,rfl⟩⟩) acc_nil
  ·rename_i us off ha
   obtain⟨c,h1,⟨p,a0,e,all,rfl,h2,_⟩|⟨b,a0,bs,rfl,_⟩⟩:=gcel_ok hT ha
   case inr=>rw[h1,ha];exact acc_nil
   rw[h1,ha];exact acc_cons (.inl ⟨_,List.mem_cons_self,rfl,.inr ⟨rfl,rfl,(hm.st p h2).1⟩⟩) acc_nil
  ·cases h
 |st k a y=>
  rw[hop]at h;simp only[grd]at h;simp only[foot,gfoot]
  split at h
  ·rename_i i off ha
   obtain⟨c,h1,p,h2,rfl⟩:=gcel_ok hT ha;rw[h1,ha];exact acc_cons (.inl ⟨_,List.mem_cons_self,rfl,.inl ⟨i,rfl,hm.φ i p h2,rfl⟩⟩) acc_nil
  ·cases h
 |ap e k b a y=>
  rw[hop]at h mkX;simp only[grd]at h;simp only[foot,gfoot]
  split at h
  ·rename_i x0 y0 hx hy
   split at h
   ·rw[brec']at h
    split at h
    ·refine acc_app (mkX rfl (fun b hb=>by rw[app_eq];exact List.mem_append_left _ hb) ⟨x0,hx,grow_nf h⟩) ?_
     unfold accY;obtain⟨c,h1,h2⟩:=accC_ok (base:=base) (x:=x) (m:=app (gaccX l.length nw g a) (gaccY g y)) hT hm (w:=false) hy (fun h=>by cases h)
      (fun b hb=>by rw[app_eq];exact List.mem_append_right _ (by unfold gaccY;rw[hy];exact hb))
     rw[h1];exact h2
    ·cases h
   ·cases h
  ·cases h
 |aps e b a y=>
  rw[hop]at h mkX;simp only[grd]at h;simp only[foot,gfoot]
  split at h
  ·rename_i x0 y0 hx hy
   exact mkX rfl (fun b hb=>hb) ⟨x0,hx,grow_nf h⟩
  ·cases h
 |apz e k b zs a y=>
  rw[hop]at h mkX;simp only[grd]at h;simp only[foot,gfoot]
  split at h
  ·rename_i x0 kj m hx hy
   split at h
   ·rw[brec']at h
    split at h
    ·exact mkX rfl (fun b hb=>hb) ⟨x0,hx,grow_nf h⟩
    ·cases h
   ·cases h
  ·cases h
 |b2s y=>
  rw[hop]at h;simp only[grd]at h;simp only[foot,gfoot]
  split at h
  ·rename_i y0 hy
   unfold accY gaccY;obtain⟨c,h1,h2⟩:=accC_ok (base:=base) (x:=x) (m:=gaccG false y0) hT hm (w:=false) hy (fun h=>by cases h) (fun b hb=>hb);rw[h1,hy];exact h2
  ·cases h
 |_=>exact acc_nil
theorem nf_own {E:En2} {l:List GO} {hp:Tr Ob} (hH:RH E l hp) {i:Nat} {p:Pos} {e:Nat} {cs:List G} (hφ:E.φ i=some p) (hl:l[i]?=some (.ob e false cs)):¬E.fz p:=by
 obtain⟨p',cs',h1,_,_,h4⟩:=hH.ob i e false cs hl;rw[hφ]at h1;cases h1;intro hf;have:=h4.2 hf
 cases this
theorem grow_own {l l':List GO} {e k b m:Nat} {x:G} {cs:List G} {d:GD} (h:ggrow l e k b x m cs=some (d,l')):(∃i j n e' old,x=.own i j n∧l[i]?=some (.ob e' false old))∨x=.v .nil:=by
 unfold ggrow at h
 split at h
 ·rename_i i j n
  split at h
  ·rename_i e' old hi
   rw[nth_eq]at hi;exact .inl ⟨i,j,n,e',old,rfl,hi⟩
  ·cases h
 ·exact .inr rfl
 ·cases h
theorem foot_nf {E:En2} {l l':List GO} {hp:Tr Ob} {g:Tr GD} {tm:Tr D} (hT:RT E hp g tm) (hH:RH E l hp) {i:I} {nid:Pos} {d:GD} (hn:mkI i=true→Tr.get nid hp=none) (h:grd P i g l=some (d,l')):∀b∈foot nid i tm,b.1=true→¬E.fz b.2.1:=by
 have mk1:mkI i=true→∀b∈([(true,nid,none)]:List Acc),b.1=true→¬E.fz b.2.1:=by
  intro hx b hb _ hf;rw[List.mem_singleton]at hb;subst hb;exact hH.fzn hf (hn hx)
 have mkX:∀{a:A} {x0:G},mkI i=true→gcel g a=some x0→((∃i j n e' old,x0=.own i j n∧l[i]?=some (.ob e' false old))∨x0=.v .nil)→∀b∈accX nid tm a,b.1=true→¬E.fz b.2.1:=by
  intro a x0 hx ha h0 b hb hw hf;unfold accX at hb;obtain⟨c,h1,h2⟩:=gcel_ok hT ha;rw[h1]at hb
  cases hb with
  |head=>exact hH.fzn hf (hn hx)
  |tail _ hb=>
   rcases h0 with⟨i1,j,n,e',old,rfl,hi⟩|rfl
   ·obtain⟨p,h3,rfl⟩:=h2
    have hb:b∈([(true,p,none)]:List Acc):=hb;rw[List.mem_singleton]at hb;subst hb;exact nf_own hH h3 hi hf
   ·have h2:RU E.fz hp _ c:=h2
    rw[RU]at h2;subst h2
    cases hb
 have rdA:∀{a:A},∀b∈accY tm a,b.1=true→¬E.fz b.2.1:=by
  intro a b hb hw _;unfold accY at hb
  split at hb
  ·rename_i c hc
   cases c<;>first|(cases hb;done)|(have hb:b∈[((false,_,none):Acc)]:=hb;rw[List.mem_singleton]at hb;subst hb;cases hw)
  ·cases hb
 cases hop:i with
 |alloc e zs=>rw[hop]at mk1;exact mk1 rfl
 |box e k y=>rw[hop]at mk1;exact mk1 rfl
 |bsl e k n zs ps=>rw[hop]at mk1;exact mk1 rfl
 |mk e k n zs=>rw[hop]at mk1;exact mk1 rfl
 |s2b e y=>rw[hop]at mk1;exact mk1 rfl
 |ld k ag a=>
  intro b hb hw;simp only[foot]at hb
  split at hb
  ·rw[List.mem_singleton]at hb;subst hb;cases hw
  ·cases hb
 |st k a y=>
  rw[hop]at h;simp only[grd]at h;intro b hb hw hf;simp only[foot]at hb
  split at h
  ·rename_i i1 off ha
   obtain⟨c,h1,p,h2,rfl⟩:=gcel_ok hT ha;rw[h1]at hb;have hb:b∈([(true,p,some (off,k))]:List Acc):=hb;rw[List.mem_singleton]at hb;subst hb
   split at h
   ·rename_i e cs hi
    rw[nth_eq]at hi;exact nf_own hH h2 hi hf
   ·cases h
  ·cases h
 |ap e k b a y=>
  rw[hop]at h mkX;simp only[grd]at h;simp only[foot];intro z hz;rw[app_eq,List.mem_append]at hz
  split at h
  ·rename_i x0 y0 hx hy
   split at h
   ·rw[brec']at h
    split at h
    ·rcases hz with hz|hz
     ·exact mkX rfl hx (grow_own h) z hz
     ·exact rdA z hz
    ·cases h
   ·cases h
  ·cases h
 |aps e b a y=>
  rw[hop]at h mkX;simp only[grd]at h;simp only[foot]
  split at h
  ·rename_i x0 y0 hx hy
   exact mkX rfl hx (grow_own h)
  ·cases h
 |apz e k b zs a y=>
  rw[hop]at h mkX;simp only[grd]at h;simp only[foot]
  split at h
  ·rename_i x0 kj m hx hy
   split at h
   ·rw[brec']at h
    split at h
    ·exact mkX rfl hx (grow_own h)
    ·cases h
   ·cases h
  ·cases h
 |b2s y=>exact rdA
 |_=>intro b hb;cases hb
theorem gstep_ok (hG:Good2 O2 O) {base:Pos} {na:Nat} {todo:Nat→Prop} {x:Ins} {E:En2} {g g':GS} {s:St} (h:RB base na todo E g s) (hx:mkI x.op=true→x.r<na∧todo x.r) (hs:gstep1 P O2 x g=some g'):
 ∃s' E',step1 P O base x s=some s'∧RB base na (fun r=>todo r∧(mkI x.op=true→r≠x.r)) E' g' s'∧Fra E E' s.hp s'.hp (newS base x s.nx)∧s.nx.num≤s'.nx.num∧FtOk base x E' s'.hp (ft base x s s') (gft x g g')∧(∀a b h0 n1 ptr,ft base x s s'=.call a b→gft x g g'=.call h0 n1 ptr→a=s.hp∧h0=g.hp∧∀p,Tr.get p a≠none→(∀i,ptr=some i→E.φ i≠some p)→Tr.get p b=Tr.get p a)∧(∀m,ft base x s s'=.acc m→∀b∈m,b.1=true→¬E.fz b.2.1):=by
 unfold gstep1 at hs
 split at hs
 ·rename_i hg
  have hg':=gguard_ok h.tm (gd:=x.gd) (by rw[hg];intro h;cases h);rw[hg]at hg'
  cases hs
  refine⟨{s with tm:=put x.dst (.one .un) s.tm},E,?_,⟨RT_put h.tm (by show RU _ _ _ _;rw[RU]),h.hp,h.low,h.nx,fun r h1 h2=>h.free r h1 h2.1⟩,.refl _ _ _,Nat.le_refl _,?_,?_,?_⟩
  ·unfold step1;rw[hg']
  ·unfold ft gft
   rw[hg,hg'];exact acc_nil
  ·intro a b h0 n1 ptr h1
   unfold ft at h1;rw[hg']at h1
   cases h1
  ·intro m h1
   unfold ft at h1;rw[hg']at h1
   cases h1
   intro b hb
   cases hb
 ·cases hs
 ·rename_i hg
  have hg':=gguard_ok h.tm (gd:=x.gd) (by rw[hg];intro h;cases h);rw[hg]at hg'
  split at hs
  ·rename_i f as hop
   split at hs
   case h_2=>cases hs
   rename_i ds hds
   split at hs
   case h_2=>cases hs
   rename_i d l' hc
   cases hs
   obtain⟨Ds,h1,h2⟩:=gvals_ok h.tm hds;obtain⟨D1,hp',nx',E',b1,b2,b3,b4,b5,b6,b7⟩:=(gcall_ok hG hc h.hp h2 h.low).ok;have hx0:mkI x.op=false:=by rw[hop];rfl
   refine⟨⟨put x.dst D1 s.tm,hp',nx'⟩,E',?_,⟨RT_put (RT_mono b4.more h.tm) b2,b3,b5,?_,fun r h1 h2=>?_⟩,b4.mono fun p hp=>.inr hp,b6,?_,?_,?_⟩
   ·unfold step1
    rw[hg'];simp only[hop,h1,b1]
   ·have:=h.nx
    show _≤nx'.num;omega
   ·have h0:=h.free r h1 h2.1
    by_cases hc:Tr.get (Pos.plus r base) hp'=none
    ·exact hc
    ·have hlt:s.nx.num≤(Pos.plus r base).num:=b4.new _ h0 hc
     have:=h.nx;rw[num_plus]at hlt;omega
   ·unfold ft gft
    rw[hg,hg'];simp only[hop,hds];show CallFt E' hp' s.hp hp' g.hp (len l') (gptr ds);rw[len_eq];refine⟨fun p hp hn=>b7 p hp fun i hi he=>hn i hi (b4.more.φ i p he),fun p hp=>b4.ex p hp,fun j p hj hp=>?_,fun j p hj hp=>?_,fun p hp=>hp,fun j hj=>?_,fun i hi=>?_⟩
    ·obtain⟨q,hq⟩:=h.hp.tot j hj
     have:=b4.more.φ j q hq;rw[hp]at this;cases this;refine⟨h.hp.ex j p hq,fun e fr cs hj'=>?_⟩;obtain⟨p',cs',k1,k2,_⟩:=h.hp.ob j e fr cs hj';rw[hq]at k1;cases k1;exact⟨e,cs',k2⟩
    ·have:=b3.dom j p hp
     omega
    ·obtain⟨q,hq⟩:=h.hp.tot j hj
     exact⟨q,b4.more.φ j q hq⟩
    ·exact gcall_ob hc hi
   ·intro a b h0 n1 ptr h1 h2
    unfold ft at h1;unfold gft at h2;rw[hg']at h1;rw[hg]at h2;simp only[hop,hds]at h1 h2
    cases h1;cases h2
    exact⟨rfl,rfl,b7⟩
   ·intro m h1
    unfold ft at h1;rw[hg']at h1;simp only[hop]at h1
    cases h1
  ·rename_i hno
   split at hs
   case h_2=>cases hs
   rename_i d l' hr
   cases hs
   have hn:mkI x.op=true→Tr.get (Pos.plus x.r base) s.hp=none:=fun hm=>h.free x.r (hx hm).1 (hx hm).2
   obtain⟨d',f,hp',E',b1,b2,b3,b4,b5,b6⟩:=grd_ok1 (P:=P) h.tm h.hp hn hr;refine⟨⟨put x.dst d' s.tm,hp',s.nx⟩,E',?_,⟨RT_put (RT_mono b5.more h.tm) b3,b4,?_,h.nx,fun r h1 h2=>?_⟩,b5.mono fun p hp=>.inl hp,Nat.le_refl _,?_,?_,?_⟩
   ·unfold step1
    rw[hg']
    split
    ·rename_i h;cases h
    ·rename_i h;cases h
    ·split
     ·rename_i f as hop;exact absurd hop (hno f as)
     ·simp only[b1,b2]
   ·intro p hp
    by_cases hc:Tr.get p s.hp=none
    ·obtain⟨m1,m2⟩:=b5.new p hc hp
     subst m2;have:=h.nx;have:=(hx m1).1;show(Pos.plus x.r base).num<s.nx.num;rw[num_plus];omega
    ·exact h.low p hc
   ·have h0:=h.free r h1 h2.1
    by_cases hc:Tr.get (Pos.plus r base) hp'=none
    ·exact hc
    ·obtain⟨m1,m2⟩:=b5.new _ h0 hc
     have:=congrArg Pos.num m2;rw[num_plus,num_plus]at this;exact absurd (by omega) (h2.2 m1)
   ·unfold ft gft
    rw[hg,hg'];simp only[];exact foot_ok h.tm b5.more b4.dom (fun hm=>b6 (hn hm)) hr
   ·intro a b h0 n1 ptr h1
    unfold ft at h1;rw[hg']at h1;simp only[]at h1
    cases h1
   ·intro m h1
    unfold ft at h1;rw[hg']at h1;simp only[]at h1
    cases h1
    exact foot_nf h.tm h.hp hn hr
noncomputable def okRs (na:Nat) (l:List Ins):Bool:=
 List.rec true (fun x t ih=>Bool.rec ih (Bool.rec false (Bool.rec false ih (all (fun y=>Bool.rec true (not (Nat.beq x.r y.r)) (mkI y.op)) t)) (Nat.ble (Nat.succ x.r) na)) (mkI x.op)) l
def todoL (l:List Ins) (r:Nat):Prop:=∃y∈l,mkI y.op=true∧y.r=r
theorem okRs_cons {na:Nat} {x:Ins} {l:List Ins} (h:okRs na (x::l)=true):okRs na l=true∧(mkI x.op=true→x.r<na∧¬todoL l x.r):=by
 have h:(Bool.rec (okRs na l) (Bool.rec false (Bool.rec false (okRs na l) (all (fun y=>Bool.rec true (not (Nat.beq x.r y.r)) (mkI y.op)) l):Bool) (Nat.ble (Nat.succ x.r) na):Bool) (mkI x.op):Bool)=true:=h;rw[brec']at h
 split at h
 ·rename_i hx
  rw[brec']at h
  split at h
  ·rename_i h1
   rw[brec']at h
   split at h
   ·rename_i h2
    refine⟨h,fun _=>⟨(ble_iff _ _).1 h1,?_⟩⟩
    rintro ⟨y,hy,hm,hr⟩
    have:=all_true h2 y hy;rw[hm]at this;have:(!(Nat.beq x.r y.r))=true:=this;rw[hr,Nat.beq_refl]at this
    cases this
   ·cases h
  ·cases h
 ·rename_i hx
  exact⟨h,fun h'=>absurd h' hx⟩
theorem newS_ge {base:Pos} {na:Nat} {x:Ins} {nx:Pos} (h:base.num+na≤nx.num):∀p,newS base x nx p→base.num≤p.num:=by
 rintro p (⟨_,rfl⟩|h')
 ·rw[num_plus];omega
 ·omega
theorem RB.next {base:Pos} {na:Nat} {x:Ins} {l:List Ins} {E:En2} {g:GS} {s:St} (hr:mkI x.op=true→x.r<na∧¬todoL l x.r) (h:RB base na (fun r=>todoL (x::l) r∧(mkI x.op=true→r≠x.r)) E g s):RB base na (todoL l) E g s:=
 ⟨h.tm,h.hp,h.low,h.nx,fun r h1 ⟨y,hy,hm,he⟩=>h.free r h1 ⟨⟨y,List.mem_cons_of_mem _ hy,hm,he⟩,fun hx e=>(hr hx).2 ⟨y,hy,hm,he.trans e⟩⟩⟩
theorem gsteps_cons (x:Ins) (l:List Ins) (s:GS):gsteps P O2 (x::l) s=match gstep1 P O2 x s with|some s'=>gsteps P O2 l s'|none=>none:=by
 show(@Option.rec GS (fun _=>Option GS) none (fun s=>gsteps P O2 l s) (gstep1 P O2 x s))=_
 cases gstep1 P O2 x s<;>rfl
theorem gsteps_ok (hG:Good2 O2 O) {base:Pos} {na:Nat}:∀{l:List Ins} {E:En2} {g g':GS} {s:St},RB base na (todoL l) E g s→okRs na l=true→gsteps P O2 l g=some g'→
 ∃s' E',steps P O base l s=some s'∧RB base na (todoL []) E' g' s'∧Fra E E' s.hp s'.hp (fun p=>base.num≤p.num)∧s.nx.num≤s'.nx.num
 |[],E,g,g',s,h,_,hs=>by
  have hs:some g=some g':=hs
  cases hs
  exact⟨s,E,rfl,h,.refl _ _ _,Nat.le_refl _⟩
 |x::l,E,g,g',s,h,ho,hs=>by
  rw[gsteps_cons]at hs
  split at hs
  ·rename_i g1 h1
   obtain⟨ho1,hr⟩:=okRs_cons ho;obtain⟨s1,E1,a1,a2,a3,a4,_,_,_⟩:=gstep_ok hG h (fun hm=>⟨(hr hm).1,x,List.mem_cons_self,hm,rfl⟩) h1;obtain⟨s2,E2,b1,b2,b3,b4⟩:=gsteps_ok hG (a2.next hr) ho1 hs;refine⟨s2,E2,?_,b2,(a3.mono (newS_ge h.nx)).trans b3,Nat.le_trans a4 b4⟩;rw[steps_cons,a1];exact b1
  ·cases hs
theorem gstepsF_cons (z:Nat×Ins) (l:List (Nat×Ins)) (s:GS) (fs:List Ft2):gstepsF P O2 (z::l) s fs=match gstep1 P O2 z.2 s with|some s'=>gstepsF P O2 l s' (gft z.2 s s'::fs)|none=>none:=by
 show(@Option.rec GS (fun _=>Option (GS×List Ft2)) none (fun s'=>gstepsF P O2 l s' (gft z.2 s s'::fs)) (gstep1 P O2 z.2 s))=_
 cases gstep1 P O2 z.2 s<;>rfl
def AccT (base:Pos) (E:En2) (xs:List Ins) (fs:List Ft) (gs:List Ft2):Prop:=∀(i:Nat) m,fs[i]?=some (.acc m)→∃(Ec:En2) (hc:Tr Ob),(∀b∈m,b.1=true→¬Ec.fz b.2.1)∧(∀j p,Ec.φ j=some p→E.φ j=some p)∧
 ∀(j:Nat) x f g,i<j→xs[j]?=some x→fs[j]?=some f→gs[j]?=some g→FtOk base x Ec hc f g
theorem gstepsF_ok (hG:Good2 O2 O) {base:Pos} {na:Nat}:∀{l:List (Nat×Ins)} {E:En2} {g g':GS} {s:St} {xs:List Ins} {fs:List Ft} {gs gs':List Ft2},RB base na (todoL (l.map (·.2))) E g s→okRs na (l.map (·.2))=true→
 xs.length=fs.length→xs.length=gs.length→(∀(i:Nat) x f g,xs[i]?=some x→fs[i]?=some f→gs[i]?=some g→FtOk base x E s.hp f g)→(∀x∈xs,mkI x.op=true→x.r<na∧¬todoL (l.map (·.2)) x.r)→
 (xs.Pairwise fun x y=>mkI x.op=true→mkI y.op=true→x.r≠y.r)→
 (∀(i:Nat) a b h0 n1 ptr,fs[i]?=some (.call a b)→gs[i]?=some (.call h0 n1 ptr)→∃Ec,RH Ec h0 a∧(∀p,Tr.get p a≠none→(∀i,ptr=some i→Ec.φ i≠some p)→Tr.get p b=Tr.get p a)∧∀(j:Nat) x f g,i<j→xs[j]?=some x→fs[j]?=some f→gs[j]?=some g→FtOk base x Ec a f g)→AccT base E xs fs gs→
 gstepsF P O2 l g gs=some (g',gs')→
 ∃s' E',∃(fs':List Ft) (xs':List Ins),stepsF P O base l s fs=some (s',fs')∧RB base na (todoL []) E' g' s'∧Fra E E' s.hp s'.hp (fun p=>base.num≤p.num)∧s.nx.num≤s'.nx.num∧
  xs'.length=fs'.length∧xs'.length=gs'.length∧(∀(i:Nat) x f g,xs'[i]?=some x→fs'[i]?=some f→gs'[i]?=some g→FtOk base x E' s'.hp f g)∧(xs'.Pairwise fun x y=>mkI x.op=true→mkI y.op=true→x.r≠y.r)∧(∀(i:Nat) a b h0 n1 ptr,fs'[i]?=some (.call a b)→gs'[i]?=some (.call h0 n1 ptr)→∃Ec,RH Ec h0 a∧(∀p,Tr.get p a≠none→(∀i,ptr=some i→Ec.φ i≠some p)→Tr.get p b=Tr.get p a)∧∀(j:Nat) x f g,i<j→xs'[j]?=some x→fs'[j]?=some f→gs'[j]?=some g→FtOk base x Ec a f g)∧AccT base E' xs' fs' gs'
 |[],E,g,g',s,xs,fs,gs,gs',h,_,e1,e2,hok,hr,hd,hc,hz,hs=>by
  have hs:some (g,gs)=some (g',gs'):=hs
  cases hs
  exact⟨s,E,fs,xs,rfl,h,.refl _ _ _,Nat.le_refl _,e1,e2,hok,hd,hc,hz⟩
 |z::l,E,g,g',s,xs,fs,gs,gs',h,ho,e1,e2,hok,hr,hd,hc,hz,hs=>by
  rw[gstepsF_cons]at hs
  split at hs
  ·rename_i g1 h1
   obtain⟨ho1,hr1⟩:=okRs_cons (x:=z.2) (l:=l.map (·.2)) ho
   obtain⟨s1,E1,a1,a2,a3,a4,a5,a6,a7⟩:=gstep_ok hG h (fun hm=>⟨(hr1 hm).1,z.2,List.mem_cons_self,hm,rfl⟩) h1;have hnx:=h.nx;have hxz:∀y∈xs,mkI y.op=true→mkI z.2.op=true→y.r≠z.2.r:=by
    intro y hy hm hz e;exact(hr y hy hm).2 ⟨z.2,List.mem_cons_self,hz,e.symm⟩
   obtain⟨s2,E2,fs',xs',b1,b2,b3,b4,b5,b6,b7,b8,b9,b10⟩:=gstepsF_ok hG (xs:=z.2::xs) (fs:=ft base z.2 s s1::fs) (gs:=gft z.2 g g1::gs) (a2.next hr1) ho1 (by simp[e1]) (by simp[e2])
    (fun i x f g hx hf hg=>by
      cases i with
      |zero=>cases hx;cases hf;cases hg;exact a5
      |succ i=>
       rw[List.getElem?_cons_succ]at hx hf hg;refine(hok i x f g hx hf hg).mono a3 fun hm hn=>?_
       have hmem:=List.mem_of_getElem? hx;have hlt:=(hr x hmem hm).1;rcases hn with⟨hz,he⟩|hn
       ·have:=congrArg Pos.num he
        rw[num_plus,num_plus]at this;exact hxz x hmem hm hz (by omega)
       ·rw[num_plus]at hn;omega)
    (fun x hx hm=>by
      cases hx with
      |head=>exact hr1 hm
      |tail _ hx=>exact⟨(hr x hx hm).1,fun⟨y,hy,hm',he⟩=>(hr x hx hm).2 ⟨y,List.mem_cons_of_mem _ hy,hm',he⟩⟩)
    (List.Pairwise.cons (fun y hy hz hm e=>hxz y hy hm hz e.symm) hd)
    (fun i a b h0 n1 ptr hi hi'=>by
      cases i with
      |zero=>
       have hi:some (ft base z.2 s s1)=some (.call a b):=hi;have hi':some (gft z.2 g g1)=some (.call h0 n1 ptr):=hi';obtain⟨rfl,rfl,h3⟩:=a6 a b h0 n1 ptr (Option.some.inj hi) (Option.some.inj hi');refine⟨E,h.hp,h3,fun j x f g hj hx hf hg=>?_⟩
       cases j with
       |zero=>omega
       |succ j=>
        rw[List.getElem?_cons_succ]at hx hf hg;exact hok j x f g hx hf hg
      |succ i=>
       rw[List.getElem?_cons_succ]at hi hi';obtain⟨Ec,k1,k2,k3⟩:=hc i a b h0 n1 ptr hi hi';refine⟨Ec,k1,k2,fun j x f g hj hx hf hg=>?_⟩
       cases j with
       |zero=>omega
       |succ j=>
        rw[List.getElem?_cons_succ]at hx hf hg;exact k3 j x f g (by omega) hx hf hg)
    (fun i m hi=>by
      cases i with
      |zero=>
       have hi:some (ft base z.2 s s1)=some (.acc m):=hi;refine⟨E,s.hp,a7 m (Option.some.inj hi),fun j p hj=>a3.more.φ j p hj,fun j x f g hj hx hf hg=>?_⟩
       cases j with
       |zero=>omega
       |succ j=>
        rw[List.getElem?_cons_succ]at hx hf hg;exact hok j x f g hx hf hg
      |succ i=>
       rw[List.getElem?_cons_succ]at hi;obtain⟨Ec,hc0,k1,k2,k3⟩:=hz i m hi;refine⟨Ec,hc0,k1,fun j p hj=>a3.more.φ j p (k2 j p hj),fun j x f g hj hx hf hg=>?_⟩
       cases j with
       |zero=>omega
       |succ j=>
        rw[List.getElem?_cons_succ]at hx hf hg;exact k3 j x f g (by omega) hx hf hg) hs
   refine⟨s2,E2,fs',xs',?_,b2,(a3.mono (newS_ge h.nx)).trans b3,Nat.le_trans a4 b4,b5,b6,b7,b8,b9,b10⟩;rw[stepsF_cons,a1];exact b1
  ·cases hs
end
end Go.Proofs.YtiahijhpjloijaaGreat.V

namespace Go.Proofs.YtiahijhpjloijaaGreat.V
open Go
section
variable{P:Program} {O2:Oracle2} {O:Oracle}
theorem leaves_same {a b:Tr Ob} {x:Acc} (h:(Tr.get x.2.1 a=none∧Tr.get x.2.1 b=none)∨∃e cs,Tr.get x.2.1 a=some (.ob e cs)∧Tr.get x.2.1 b=some (.ob e cs)):leaves a b x=true:=by
 have hl:∀l:List C,sameL l l=true:=by
  intro l
  induction l with
  |nil=>rfl
  |cons c l ih=>
   show(Bool.rec false (sameL l l) (sameC c c):Bool)=true;rw[sameC_refl];exact ih
 obtain⟨w,p,r⟩:=x
 cases w with
 |true=>rfl
 |false=>
  rcases h with⟨h1,h2⟩|⟨e,cs,h1,h2⟩
  ·have h1:Tr.get p a=none:=h1
   have h2:Tr.get p b=none:=h2
   cases r with
   |none=>simp only[leaves,h1,h2]
   |some r=>obtain⟨o,k⟩:=r;simp only[leaves,h1,h2]
  ·have h1:Tr.get p a=some (.ob e cs):=h1
   have h2:Tr.get p b=some (.ob e cs):=h2
   cases r with
   |none=>simp only[leaves,h1,h2,hl,Nat.beq_refl]
   |some r=>obtain⟨o,k⟩:=r;simp only[leaves,h1,h2,hl,Nat.beq_refl]
theorem clash_false {x y:Acc} (h:(x.1=true∨y.1=true)→x.2.1=y.2.1→apartR x.2.2 y.2.2=true):clash x y=false:=by
 obtain⟨v,p,r⟩:=x;obtain⟨w,q,s⟩:=y;show(Bool.rec false (Bool.rec false (Bool.rec true false (apartR r s)) (Pos.same p q):Bool) (Bool.rec w true v:Bool):Bool)=false;rw[brec']
 split
 ·rename_i hvw
  rw[brec']
  split
  ·rename_i hpq
   have hpq:=Pos.same_spec.1 hpq;have:v=true∨w=true:=by cases v<;>cases w<;>simp at hvw⊢
   have:=h this hpq;rw[this]
  ·rfl
 ·rfl
theorem gclash_some {l:List GO} {v w:Bool} {i j:Nat} {r s:Option (Nat×Nat)} (h:gclash l (v,some i,r) (w,some j,s)=false):(v=true∨w=true)→i=j→apartR r s=true:=by
 intro hvw hij;have h:(Bool.rec false (Bool.rec false (Bool.rec true false (apartR r s)) (Nat.beq i j):Bool) (Bool.rec w true v:Bool):Bool)=false:=h;have h1:(Bool.rec w true v:Bool)=true:=by cases v<;>cases w<;>simp at hvw⊢
 rw[h1,hij,Nat.beq_refl]at h
 cases ha:apartR r s with
 |true=>rfl
 |false=>rw[ha]at h;cases h
theorem accs_ok {base:Pos} {x y:Ins} {E:En2} {g:GS} {s:St} (hH:RH E g.hp s.hp) {l m:List Acc} {l2 m2:List Acc2} (h1:AccOk base x E s.hp l l2) (h2:AccOk base y E s.hp m m2) (hr:mkI x.op=true→mkI y.op=true→x.r≠y.r)
 {Ec:En2} {hc0:Tr Ob} (z1:∀b∈m,b.1=true→¬Ec.fz b.2.1) (z2:∀j p,Ec.φ j=some p→E.φ j=some p) (z3:AccOk base x Ec hc0 l l2)
 (hc:any (fun x=>any (fun y=>gclash g.hp x y) m2) l2=false):any (fun x=>any (fun y=>clash x y) m) l=false:=by
 refine any_of_false fun a ha=>any_of_false fun b hb=>clash_false fun hw hp=>?_
 rcases h1 a ha with⟨a2,ha2,e1,ea⟩|⟨e0,e1,e2,e3⟩<;>rcases h2 b hb with⟨b2,hb2,f1,fb⟩|⟨f0,f1,f2,f3⟩
 ·have hg:=any_false (any_false hc a2 ha2) b2 hb2
  obtain⟨v,i,r⟩:=a2;obtain⟨w,j,t⟩:=b2;have e1:v=a.1:=e1;have f1:w=b.1:=f1;subst e1;subst f1;rcases ea with⟨i',ei,e2,e3⟩|⟨ei,e2,e3⟩<;>rcases fb with⟨j',fj,f2,f3⟩|⟨fj,f2,f3⟩
  ·have ei:i=some i':=ei
   have fj:j=some j':=fj;subst ei;subst fj;have e3:r=a.2.2:=e3;have f3:t=b.2.2:=f3;subst e3;subst f3;rw[←hp]at f2;exact gclash_some hg hw (hH.inj _ _ _ e2 f2)
  ·have ei:i=some i':=ei
   have fj:j=none:=fj;subst ei;subst fj;have hg:(Bool.rec b.1 (ofr g.hp i') a.1:Bool)=false:=hg;rw[←hp]at f3;obtain⟨e,cs,k⟩:=hH.own _ _ e2 f3;have hfr:ofr g.hp i'=true:=by unfold ofr;rw[nth_eq,k]
   rw[hfr]at hg;rcases hw with hw|hw
   ·rw[hw]at hg;cases hg
   ·rw[f2]at hw;cases hw
  ·have ei:i=none:=ei
   have fj:j=some j':=fj;subst ei;subst fj;have f3:t=b.2.2:=f3;subst f3;have hwb:b.1=true:=by
    rcases hw with hw|hw
    ·rw[e2]at hw;cases hw
    ·exact hw
   rcases z3 a ha with⟨a3,ha3,e1',⟨i',ei',e2',e3'⟩|⟨ei',e2',e3'⟩⟩|⟨e0',_⟩
   ·have hg':=any_false (any_false hc a3 ha3) _ hb2
    obtain⟨v3,i3,r3⟩:=a3;have ei':i3=some i':=ei';have e3':r3=a.2.2:=e3';have e1':v3=a.1:=e1';subst ei';subst e3';subst e1';have e2':=z2 _ _ e2';rw[hp]at e2';exact gclash_some hg' hw (hH.inj _ _ _ e2' f2)
   ·rw[hp]at e3'
    exact absurd e3' (z1 b hb hwb)
   ·rw[e2]at e0';cases e0'
  ·rcases hw with hw|hw
   ·rw[e2]at hw;cases hw
   ·rw[f2]at hw;cases hw
 ·exfalso
  have:Tr.get a.2.1 s.hp≠none:=by
   rcases ea with⟨i',ei,e2,e3⟩|⟨ei,e2,e3⟩
   ·exact hH.ex _ _ e2
   ·exact hH.fzn e3
  rw[hp]at this;exact this f3
 ·exfalso
  have:Tr.get b.2.1 s.hp≠none:=by
   rcases fb with⟨i',ei,e2,e3⟩|⟨ei,e2,e3⟩
   ·exact hH.ex _ _ e2
   ·exact hH.fzn e3
  rw[←hp]at this;exact this e3
 ·exfalso
  rw[e2,f2]at hp;have:=congrArg Pos.num hp;rw[num_plus,num_plus]at this;exact hr e1 f1 (by omega)
theorem gokF_ok {base:Pos} {E:En2} {g:GS} {s:St} {xs:List Ins} {fs:List Ft} {gs:List Ft2} {n:Nat} (hH:RH E g.hp s.hp) (hn:fs.length=n) (e1:xs.length=fs.length) (e2:xs.length=gs.length)
 (hok:∀(i:Nat) x f h,xs[i]?=some x→fs[i]?=some f→gs[i]?=some h→FtOk base x E s.hp f h) (hd:xs.Pairwise fun x y=>mkI x.op=true→mkI y.op=true→x.r≠y.r)
 (hc:∀(i:Nat) a b h0 n1 ptr,fs[i]?=some (.call a b)→gs[i]?=some (.call h0 n1 ptr)→∃Ec,RH Ec h0 a∧(∀p,Tr.get p a≠none→(∀i,ptr=some i→Ec.φ i≠some p)→Tr.get p b=Tr.get p a)∧∀(j:Nat) x f g,i<j→xs[j]?=some x→fs[j]?=some f→gs[j]?=some g→FtOk base x Ec a f g) (hz:AccT base E xs fs gs):
 ∀{chk:List (Nat×Nat)},gokF g.hp gs n chk=true→okF fs n chk=true
 |[],_=>rfl
 |z::chk,h=>by
  have h:(match nth gs (n-1-z.1),nth gs (n-1-z.2)with
   |some x,some y=>(Bool.rec (gokF g.hp gs n chk) false (Bool.rec true (gclashes g.hp x y) (Bool.rec false (Nat.ble (Nat.succ z.1) z.2) (Nat.ble (Nat.succ z.2) n):Bool):Bool):Bool)
   |_,_=>false)=true:=h
  show(match nth fs (n-1-z.1),nth fs (n-1-z.2)with
   |some x,some y=>(Bool.rec (okF fs n chk) false (clashes x y):Bool)
   |_,_=>false)=true
  split at h
  case h_2=>cases h
  rename_i x2 y2 hx2 hy2;rw[brec']at h
  split at h
  ·cases h
  rename_i hcl;have ih:=gokF_ok hH hn e1 e2 hok hd hc hz h;rw[brec']at hcl
  split at hcl
  case isFalse=>exact absurd rfl hcl
  rename_i hlt;rw[brec']at hlt
  split at hlt
  case isFalse=>cases hlt
  rename_i hlt2;rw[ble_iff]at hlt hlt2;have hcl:gclashes g.hp x2 y2=false:=by simpa using hcl
  rw[nth_eq]at hx2 hy2;have hip:n-1-z.2<n-1-z.1:=by omega
  have li:=lt_of_get hx2;have lj:=lt_of_get hy2;obtain⟨x,hx⟩:∃x,fs[n-1-z.1]?=some x:=⟨_,List.getElem?_eq_getElem (by omega)⟩;obtain⟨y,hy⟩:∃y,fs[n-1-z.2]?=some y:=⟨_,List.getElem?_eq_getElem (by omega)⟩;obtain⟨ix,hix⟩:∃x,xs[n-1-z.1]?=some x:=⟨_,List.getElem?_eq_getElem (by omega)⟩;obtain⟨iy,hiy⟩:∃y,xs[n-1-z.2]?=some y:=⟨_,List.getElem?_eq_getElem (by omega)⟩;have ox:=hok _ ix x x2 hix hx hx2;have oy:=hok _ iy y y2 hiy hy hy2;rw[nth_eq,nth_eq,hx,hy];simp only[];have hcc:clashes x y=false:=by
   cases x with
   |acc l=>
    cases x2 with
    |call _ _ _=>exact ox.elim
    |acc l2=>
     cases y with
     |acc m=>
      cases y2 with
      |call _ _ _=>exact oy.elim
      |acc m2=>
       have hr:mkI ix.op=true→mkI iy.op=true→ix.r≠iy.r:=by
        intro h1 h2 e;rw[List.pairwise_iff_getElem]at hd;obtain⟨hl1,he1⟩:=List.getElem?_eq_some_iff.1 hix;obtain⟨hl2,he2⟩:=List.getElem?_eq_some_iff.1 hiy;have:=hd _ _ hl2 hl1 hip;rw[he1,he2]at this;exact this h2 h1 e.symm
       obtain⟨Ec,hc0,z1,z2,z3⟩:=hz _ m hy;exact accs_ok hH ox oy hr z1 z2 (z3 _ ix _ _ hip hix hx hx2) hcl
     |call a b=>
      cases y2 with
      |acc _=>exact oy.elim
      |call h0 n1 ptr=>
       have hcl:(Bool.rec true false (all (gleave true h0 n1 ptr) l2):Bool)=false:=hcl;have hall:all (gleave true h0 n1 ptr) l2=true:=by
        cases hh:all (gleave true h0 n1 ptr) l2 with
        |true=>rfl
        |false=>rw[hh]at hcl;cases hcl
       obtain⟨Ec,k1,k2,k3⟩:=hc _ a b h0 n1 ptr hy hy2;have oc:AccOk base ix Ec a l l2:=k3 _ ix _ _ hip hix hx hx2;have oy:CallFt E s.hp a b h0 n1 ptr:=oy;show(Bool.rec true false (all (leaves a b) l):Bool)=false;have:all (leaves a b) l=true:=all_of fun c hcm=>by
        rcases oc c hcm with⟨c2,hc2,q1,q2⟩|⟨q0,_⟩
        ·cases hw:c.1 with
         |true=>obtain⟨w,p,r⟩:=c;have hw:w=true:=hw;subst hw;rfl
         |false=>
          have hgl:=all_true hall c2 hc2;obtain⟨w2,id2,r2⟩:=c2;have q1:w2=c.1:=q1;rw[hw]at q1;subst q1;refine leaves_same (.inr ?_);rcases q2 with⟨j,q2,q3,q4⟩|⟨q2,q3,q4⟩
          ·have q2:id2=some j:=q2
           subst q2;have hgl:(Bool.rec (Bool.rec (Nat.ble n1 j) false true:Bool) true (Bool.rec false (Bool.rec false (ptrNe ptr j) (oob h0 j):Bool) (Nat.ble (Nat.succ j) (len h0)):Bool):Bool)=true:=hgl;rw[brec']at hgl
           split at hgl
           case isFalse=>cases hgl
           rename_i hcond;rw[brec']at hcond
           split at hcond
           case isFalse=>cases hcond
           rw[brec']at hcond
           split at hcond
           case isFalse=>cases hcond
           rename_i hob;unfold oob at hob
           split at hob
           case h_2=>cases hob
           rename_i e fr cs hoe;rw[nth_eq]at hoe;obtain⟨p,cs',m1,m2,_⟩:=k1.ob j e fr cs hoe;rw[q3]at m1;cases m1;refine⟨e,cs',m2,?_⟩;rw[k2 _ (by rw[m2];exact Option.some_ne_none _)];· exact m2
           rintro i rfl hi
           have:=k1.inj _ _ _ q3 hi;subst this;have hcond:(Bool.rec true false (Nat.beq j j):Bool)=true:=hcond;rw[Nat.beq_refl]at hcond;cases hcond
          ·obtain⟨e,cs,m2⟩:=k1.fzd _ q4
           refine⟨e,cs,m2,?_⟩;rw[k2 _ (by rw[m2];exact Option.some_ne_none _)];· exact m2
           rintro i rfl hi
           obtain⟨e1,cs1,m3⟩:=oy.c8 i rfl;obtain⟨e2,cs2,m4⟩:=k1.own i _ hi q4;rw[m3]at m4;cases m4
        ·obtain⟨w,p,r⟩:=c;have q0:w=true:=q0;subst q0;rfl
       rw[this]
   |call a b=>
    cases x2 with
    |acc _=>exact ox.elim
    |call h0 n1 ptr=>
     have ox:CallFt E s.hp a b h0 n1 ptr:=ox
     cases y with
     |call _ _=>
      cases y2 with
      |acc _=>exact oy.elim
      |call _ _ _=>cases hcl
     |acc l=>
      cases y2 with
      |call _ _ _=>exact oy.elim
      |acc l2=>
       have hcl:(Bool.rec true false (all (gleave false h0 n1 ptr) l2):Bool)=false:=hcl;have hall:all (gleave false h0 n1 ptr) l2=true:=by
        cases hh:all (gleave false h0 n1 ptr) l2 with
        |true=>rfl
        |false=>rw[hh]at hcl;cases hcl
       have oy:AccOk base iy E s.hp l l2:=oy;show(Bool.rec true false (all (leaves a b) l):Bool)=false;have:all (leaves a b) l=true:=all_of fun c hcm=>by
        rcases oy c hcm with⟨c2,hc2,q1,q2⟩|⟨q0,_⟩
        ·cases hw:c.1 with
         |true=>obtain⟨w,p,r⟩:=c;have hw:w=true:=hw;subst hw;rfl
         |false=>
          have hgl:=all_true hall c2 hc2;obtain⟨w2,id2,r2⟩:=c2;have q1:w2=c.1:=q1;rw[hw]at q1;subst q1;refine leaves_same ?_;rcases q2 with⟨j,q2,q3,q4⟩|⟨q2,q3,q4⟩
          ·have q2:id2=some j:=q2
           subst q2;have hgl:(Bool.rec (Bool.rec (Nat.ble n1 j) false false:Bool) true (Bool.rec false (Bool.rec false (ptrNe ptr j) (oob h0 j):Bool) (Nat.ble (Nat.succ j) (len h0)):Bool):Bool)=true:=hgl;rw[brec']at hgl
           split at hgl
           ·rename_i hcond
            rw[brec']at hcond
            split at hcond
            case isFalse=>cases hcond
            rename_i hjl;rw[ble_iff,len_eq]at hjl;rw[brec']at hcond
            split at hcond
            case isFalse=>cases hcond
            rename_i hob;unfold oob at hob
            split at hob
            case h_2=>cases hob
            rename_i e fr cs hoe;rw[nth_eq]at hoe;obtain⟨m1,m2⟩:=ox.c3 j _ hjl q3;obtain⟨e',cs',m2⟩:=m2 e fr cs hoe;refine .inr ⟨e',cs',m2,?_⟩;rw[ox.c1 _ m1];· exact m2
            rintro i rfl hi
            have:=hH.inj _ _ _ q3 hi;subst this;have hcond:(Bool.rec true false (Nat.beq j j):Bool)=true:=hcond;rw[Nat.beq_refl]at hcond;cases hcond
           ·have hgl:Nat.ble n1 j=true:=hgl
            rw[ble_iff]at hgl;have hb:=ox.c4 j _ hgl q3;refine .inl ⟨?_,hb⟩
            by_cases hca:Tr.get c.2.1 a=none
            ·exact hca
            ·exact absurd hb (ox.c2 _ hca)
          ·have q2:id2=none:=q2
           subst q2;have hgl:false=true:=hgl
           cases hgl
        ·obtain⟨w,p,r⟩:=c;have q0:w=true:=q0;subst q0;rfl
       rw[this]
  rw[hcc];exact ih
inductive GOut where
 |norm (s:GS)
 |exit (id:Nat) (s:GS)
 |ret (s:GS)
 |no
noncomputable def giter (f:GS→GOut) (n:Nat):GS→GOut:=
 Nat.rec (fun _=>.no) (fun _ ih s=>GOut.rec (fun s=>ih s) (fun j s=>.exit j s) (fun s=>.ret s) .no (f s)) n
noncomputable def gev (P:Program) (O:Oracle2) (n:Nat):K→GS→GOut
 | .blk na l,s=>Option.rec .no (fun s=>.norm s) (gsteps P O l s)
 | .dblk na l chk,s=>match gstepsF P O l s []with
   |some (s',fs)=>Bool.rec .no (.norm s') (gokF s'.hp fs (len l) chk)
   |none=>.no
 | .seq a b,s=>GOut.rec (fun s=>gev P O n b s) (fun j s=>.exit j s) (fun s=>.ret s) .no (gev P O n a s)
 | .cond c a b,s=>match gcel s.tm c with
   |some (.v (.bool t))=>Bool.rec (gev P O n b s) (gev P O n a s) t
   |_=>.no
 | .block id a,s=>GOut.rec (fun s=>.norm s) (fun j s=>Bool.rec (.exit j s) (.norm s) (Nat.beq j id)) (fun s=>.ret s) .no (gev P O n a s)
 | .loop a,s=>giter (gev P O n a) n s
 | .exit id,s=>.exit id s
 | .ret,s=>.ret s
 | .skip,s=>.norm s
noncomputable def okKs:K→Bool
 | .blk na l=>okRs na l
 | .dblk na l _=>okRs na (maps (fun z=>z.2) l)
 | .seq a b=>Bool.rec false (okKs b) (okKs a)
 | .cond _ a b=>Bool.rec false (okKs b) (okKs a)
 | .block _ a=>okKs a
 | .loop a=>okKs a
 |_=>true
structure RS (E:En2) (g:GS) (s:St):Prop where
 tm:RT E s.hp g.tm s.tm
 hp:RH E g.hp s.hp
 low:Low s.hp s.nx
def NextOk (E:En2) (s:St) (g':GS) (s':St):Prop:=∃E',RS E' g' s'∧Fra E E' s.hp s'.hp (fun p=>s.nx.num≤p.num)∧s.nx.num≤s'.nx.num
theorem NextOk.trans {E:En2} {s s1 s2:St} {g1 g2:GS} (h:NextOk E s g1 s1) (k:∀E1,RS E1 g1 s1→NextOk E1 s1 g2 s2):NextOk E s g2 s2:=by
 obtain⟨E1,a1,a2,a3⟩:=h;obtain⟨E2,b1,b2,b3⟩:=k E1 a1;exact⟨E2,b1,a2.trans (b2.mono fun p hp=>Nat.le_trans a3 hp),Nat.le_trans a3 b3⟩
theorem NextOk.refl {E:En2} {s:St} {g:GS} (h:RS E g s):NextOk E s g s:=⟨E,h,.refl _ _ _,Nat.le_refl _⟩
def OutOk (E:En2) (s:St):GOut→Out→Prop
 | .norm g',.norm s'=>NextOk E s g' s'
 | .exit j g',.exit i s'=>j=i∧NextOk E s g' s'
 | .ret g',.ret s'=>NextOk E s g' s'
 | .no,_=>True
 |_,_=>False
theorem OutOk.after {E:En2} {s s1:St} {g1:GS} (h:NextOk E s g1 s1) {o2:GOut} {o:Out} (k:∀E1,RS E1 g1 s1→OutOk E1 s1 o2 o):OutOk E s o2 o:=by
 obtain⟨E1,a1,a2,a3⟩:=h;have k1:=k E1 a1
 cases o2<;>cases o<;>first|exact trivial|exact k1.elim|exact NextOk.trans ⟨E1,a1,a2,a3⟩ k|exact⟨k1.1,NextOk.trans ⟨E1,a1,a2,a3⟩ fun E2 h2=>(k E2 h2).2⟩
theorem reserve_nx (na:Nat) (s:St):(reserve na s).nx.num=s.nx.num+na:=by
 cases na with
 |zero=>rfl
 |succ n=>show(Pos.plus (n+1) s.nx).num=_;rw[num_plus]
theorem RS.enter {E:En2} {g:GS} {s:St} (h:RS E g s) (na:Nat) (todo:Nat→Prop):RB s.nx na todo E g (reserve na s):=by
 obtain⟨e1,e2⟩:=reserve_hp na s;have e3:=reserve_nx na s;refine⟨by rw[e1,e2];exact h.tm,by rw[e1];exact h.hp,?_,by omega,fun r hr _=>?_⟩
 ·intro p hp
  rw[e1]at hp;have:=h.low p hp;omega
 ·rw[e1]
  by_cases hc:Tr.get (Pos.plus r s.nx) s.hp=none
  ·exact hc
  ·have:=h.low _ hc
   rw[num_plus]at this;omega
theorem gev_seq (m:Nat) (a b:K) (s:GS):gev P O2 m (.seq a b) s=match gev P O2 m a s with| .norm s'=>gev P O2 m b s'| .exit j s'=>.exit j s'| .ret s'=>.ret s'| .no=>.no:=by
 show(GOut.rec (fun s=>gev P O2 m b s) (fun j s=>.exit j s) (fun s=>.ret s) .no (gev P O2 m a s):GOut)=_
 cases gev P O2 m a s<;>rfl
theorem gev_block (m i:Nat) (a:K) (s:GS):gev P O2 m (.block i a) s=match gev P O2 m a s with| .norm s'=>.norm s'| .exit j s'=>if j=i then .norm s' else .exit j s'| .ret s'=>.ret s'| .no=>.no:=by
 show(GOut.rec (fun s=>.norm s) (fun j s=>Bool.rec (.exit j s) (.norm s) (Nat.beq j i)) (fun s=>.ret s) .no (gev P O2 m a s):GOut)=_
 cases gev P O2 m a s with
 |exit j s'=>
  show(Bool.rec (.exit j s') (.norm s') (Nat.beq j i):GOut)=if j=i then .norm s' else .exit j s'
  rw[brec']
  by_cases h:j=i
  ·rw[if_pos h,if_pos ((beq_iff j i).2 h)]
  ·rw[if_neg h,if_neg (fun e=>h ((beq_iff j i).1 e))]
 |_=>rfl
theorem giter_succ (f:GS→GOut) (m:Nat) (s:GS):giter f (m+1) s=match f s with| .norm s'=>giter f m s'| .exit j s'=>.exit j s'| .ret s'=>.ret s'| .no=>.no:=by
 show(GOut.rec (fun s=>giter f m s) (fun j s=>.exit j s) (fun s=>.ret s) .no (f s):GOut)=_
 cases f s<;>rfl
theorem giter_ok {f2:GS→GOut} {f:St→Out} (hf:∀E g s,RS E g s→OutOk E s (f2 g) (f s)):∀m E g s,RS E g s→OutOk E s (giter f2 m g) (iter f m s)
 |0,E,g,s,h=>trivial
 |m+1,E,g,s,h=>by
  rw[giter_succ,iter_succ];have h1:=hf E g s h
  cases hg:f2 g with
  |norm g1=>
   rw[hg]at h1
   cases hs:f s with
   |norm s1=>rw[hs]at h1;exact OutOk.after h1 fun E1 k=>giter_ok hf m E1 g1 s1 k
   |exit j s1=>rw[hs]at h1;exact h1.elim
   |ret s1=>rw[hs]at h1;exact h1.elim
   |no=>rw[hs]at h1;exact h1.elim
  |exit j g1=>rw[hg]at h1;cases hs:f s<;>rw[hs]at h1<;>first|exact h1|exact h1.elim
  |ret g1=>rw[hg]at h1;cases hs:f s<;>rw[hs]at h1<;>first|exact h1|exact h1.elim
  |no=>exact trivial
theorem gev_ok (hG:Good2 O2 O) (m:Nat):∀(k:K),okKs k=true→∀E g s,RS E g s→OutOk E s (gev P O2 m k g) (ev P O m k s):=by
 intro k
 induction k with
 |blk na l=>
  intro hk E g s h;rw[ev_blk];show OutOk E s (@Option.rec GS (fun _=>GOut) .no (fun s=>.norm s) (gsteps P O2 l g)) _
  cases hs:gsteps P O2 l g with
  |none=>exact trivial
  |some g'=>
   obtain⟨s',E',a1,a2,a3,a4⟩:=gsteps_ok hG (h.enter na (todoL l)) hk hs;rw[a1];rw[(reserve_hp na s).1]at a3;have:=reserve_nx na s;exact⟨E',⟨a2.tm,a2.hp,a2.low⟩,a3,by omega⟩
 |dblk na l chk=>
  intro hk E g s h;have he:ev P O m (.dblk na l chk) s=(match stepsF P O s.nx l (reserve na s) []with
   |some (s',fs)=>(Bool.rec .no (.norm s') (okF fs (len l) chk):Out)
   |none=>.no):=rfl
  have hg:gev P O2 m (.dblk na l chk) g=(match gstepsF P O2 l g []with
   |some (s',fs)=>(Bool.rec .no (.norm s') (gokF s'.hp fs (len l) chk):GOut)
   |none=>.no):=rfl
  rw[he,hg]
  cases hs:gstepsF P O2 l g []with
  |none=>exact trivial
  |some r=>
   obtain⟨g',gs⟩:=r;simp only[];rw[brec']
   split
   case isFalse=>exact trivial
   rename_i hokF;have hk:okRs na (maps (fun z=>z.2) l)=true:=hk;rw[maps_eq]at hk;obtain⟨s',E',fs',xs',b1,b2,b3,b4,b5,b6,b7,b8,b9,b10⟩:=gstepsF_ok (O:=O) hG (xs:=[]) (fs:=[]) (h.enter na (todoL (l.map (·.2)))) hk rfl rfl (fun i x f g hx=>by cases hx) (fun x hx=>by cases hx) .nil (fun i a b h0 n1 ptr hi=>by cases hi) (fun i m hi=>by cases hi) hs;have hlen:fs'.length=len l:=by
    obtain⟨L,_,hm,hf⟩:=stepsF_run b1;rw[hf,len_eq,←hm];simp
   rw[b1];have hk2:=gokF_ok b2.hp hlen b5 b6 b7 b8 b9 b10 hokF;simp only[];rw[hk2];rw[(reserve_hp na s).1]at b3;have:=reserve_nx na s;exact⟨E',⟨b2.tm,b2.hp,b2.low⟩,b3,by omega⟩
 |seq a b iha ihb=>
  intro hk E g s h;have hk:(Bool.rec false (okKs b) (okKs a):Bool)=true:=hk;rw[brec']at hk
  split at hk
  case isFalse=>cases hk
  rename_i hka;rw[gev_seq,ev_seq];have h1:=iha hka E g s h
  cases hg:gev P O2 m a g with
  |norm g1=>
   rw[hg]at h1
   cases hs:ev P O m a s with
   |norm s1=>rw[hs]at h1;exact OutOk.after h1 fun E1 k=>ihb hk E1 g1 s1 k
   |exit j s1=>rw[hs]at h1;exact h1.elim
   |ret s1=>rw[hs]at h1;exact h1.elim
   |no=>rw[hs]at h1;exact h1.elim
  |exit j g1=>rw[hg]at h1;cases hs:ev P O m a s<;>rw[hs]at h1<;>first|exact h1|exact h1.elim
  |ret g1=>rw[hg]at h1;cases hs:ev P O m a s<;>rw[hs]at h1<;>first|exact h1|exact h1.elim
  |no=>exact trivial
 |cond c a b iha ihb=>
  intro hk E g s h;have hk:(Bool.rec false (okKs b) (okKs a):Bool)=true:=hk;rw[brec']at hk
  split at hk
  case isFalse=>cases hk
  rename_i hka;rw[ev_cond];have hg:gev P O2 m (.cond c a b) g=(match gcel g.tm c with
   |some (.v (.bool t))=>(Bool.rec (gev P O2 m b g) (gev P O2 m a g) t:GOut)
   |_=>.no):=rfl
  rw[hg]
  split
  ·rename_i t ht
   obtain⟨c',h1,h2⟩:=gcel_ok h.tm ht;have h2:RU E.fz s.hp (.bool t) c':=h2;rw[RU]at h2;subst h2;rw[h1]
   cases t with
   |true=>exact iha hka E g s h
   |false=>exact ihb hk E g s h
  ·exact trivial
 |block i a ih=>
  intro hk E g s h;rw[gev_block,ev_block];have h1:=ih hk E g s h
  cases hg:gev P O2 m a g with
  |norm g1=>rw[hg]at h1;cases hs:ev P O m a s<;>rw[hs]at h1<;>first|exact h1|exact h1.elim
  |exit j g1=>
   rw[hg]at h1
   cases hs:ev P O m a s with
   |exit j' s1=>
    rw[hs]at h1;obtain⟨rfl,h1⟩:=h1;simp only[]
    split
    ·exact h1
    ·exact⟨rfl,h1⟩
   |norm s1=>rw[hs]at h1;exact h1.elim
   |ret s1=>rw[hs]at h1;exact h1.elim
   |no=>rw[hs]at h1;exact h1.elim
  |ret g1=>rw[hg]at h1;cases hs:ev P O m a s<;>rw[hs]at h1<;>first|exact h1|exact h1.elim
  |no=>exact trivial
 |loop a ih=>
  intro hk E g s h;exact giter_ok (fun E g s h=>ih hk E g s h) m E g s h
 |exit i=>intro _ E g s h;exact⟨rfl,.refl h⟩
 |ret=>intro _ E g s h;exact NextOk.refl h
 |skip=>intro _ E g s h;exact NextOk.refl h
end
end Go.Proofs.YtiahijhpjloijaaGreat.V

