/- Parts of the proof, put together: S6, S7, S8. -/
import Derived.Test.YtiahijhpjloijaaGreatM25
set_option linter.unusedVariables false
set_option linter.unusedSimpArgs false
namespace Go.Proofs.YtiahijhpjloijaaGreat.V
open Go
theorem nth_app1 {hp G:List GO} {j:Nat} {o:GO} (h:nth hp j=some o):nth (app hp G) j=some o:=by
 rw[nth_eq]at h⊢;rw[app_eq,List.getElem?_append_left (lt_of_get h)];exact h
theorem nth_new {hp:List GO} {e:Nat} {cs:List G}:nth (gnew hp e cs) (len hp)=some (.ob e false cs):=by
 unfold gnew;rw[nth_eq,app_eq,len_eq,List.getElem?_append_right (Nat.le_refl _),Nat.sub_self];rfl
theorem nth_set1 {hp:List GO} {i:Nat} {o o':GO} (h:nth hp i=some o'):nth (setO hp i o) i=some o:=by
 rw[nth_eq]at h⊢;rw[setO_get (lt_of_get h),if_pos rfl]
theorem nth_set2 {hp:List GO} {i j:Nat} {o o' o2:GO} (h:nth hp i=some o') (hj:nth hp j=some o2) (hne:j≠i):nth (setO hp i o) j=some o2:=by
 rw[nth_eq]at h hj⊢;rw[setO_get (lt_of_get h),if_neg hne];exact hj
theorem ne_of_e {hp:List GO} {i j e e':Nat} {f f':Bool} {cs cs':List G} (h:nth hp i=some (.ob e f cs)) (hj:nth hp j=some (.ob e' f' cs')) (hne:e'≠e):j≠i:=by
 rintro rfl
 rw[h]at hj;cases hj;exact hne rfl
def Kp (hp hp':List GO):Prop:=∀j o,nth hp j=some o→nth hp' j=some o
def Ko (e:Nat) (hp hp':List GO):Prop:=∀j e' f cs,e'≠e→nth hp j=some (.ob e' f cs)→nth hp' j=some (.ob e' f cs)
theorem Kp.refl {hp:List GO}:Kp hp hp:=fun _ _ h=>h
theorem Kp.trans {a b c:List GO} (h:Kp a b) (k:Kp b c):Kp a c:=fun j o e=>k j o (h j o e)
theorem Kp.new {hp:List GO} {e:Nat} {cs:List G}:Kp hp (gnew hp e cs):=fun _ _ h=>nth_app1 h
theorem Kp.app {hp G:List GO}:Kp hp (app hp G):=fun _ _ h=>nth_app1 h
theorem Kp.to {hp hp':List GO} (h:Kp hp hp') (e:Nat):Ko e hp hp':=fun j _ _ _ _ k=>h j _ k
theorem Ko.trans {a b c:List GO} {e:Nat} (h:Ko e a b) (k:Ko e b c):Ko e a c:=fun j e' f cs hn x=>k j e' f cs hn (h j e' f cs hn x)
theorem Ko.set {hp:List GO} {i e:Nat} {f:Bool} {cs:List G} {o:GO} (h:nth hp i=some (.ob e f cs)):Ko e hp (setO hp i o):=
 fun j e' f' cs' hn hj=>nth_set2 h hj (ne_of_e h hj hn)
section
variable{P:Program} {O:Oracle2} {dst:Option Pos} {gd:Option (Pos×Bool)} {r fr:Nat} {tm:Tr GD} {hp:List GO} {l:List Ins} {Q:GS→Prop}
theorem sLdO {k:Nat} {ag:Bool} {x:A} {i o e:Nat} {f:Bool} {cs ps:List G} {d:GD} (hg:gguard gd tm=.run) (h:gval tm x=some (.one (.loc i o))) (hi:nth hp i=some (.ob e f cs)) (hp1:take k (drop o cs)=ps) (hk:len ps=k) (hd:gasD ag ps=some d):
 gstep1 P O ⟨dst,gd,r,fr,.ld k ag x⟩ ⟨tm,hp⟩=some ⟨gput dst d tm,hp⟩:=by
 unfold gstep1;rw[hg];subst hp1;have h1:Nat.beq (len (take k (drop o cs))) k=true:=(beq_iff _ _).2 hk;have h2:gobj hp i=some cs:=by unfold gobj;rw[hi]
 simp only[grd,gcel_g h,h1,h2,hd]
 where gcel_g {x:A} {g:G} (h:gval tm x=some (.one g)):gcel tm x=some g:=by unfold gcel;rw[h]
theorem sFaL {off:Nat} {x:A} {i o:Nat} (hg:gguard gd tm=.run) (h:gval tm x=some (.one (.loc i o))):gstep1 P O ⟨dst,gd,r,fr,.fa off x⟩ ⟨tm,hp⟩=some ⟨gput dst (.one (.loc i (o+off))) tm,hp⟩:=by
 unfold gstep1;rw[hg];simp only[grd,gcel_v h]
theorem sFaF {off:Nat} {x:A} {us:List U} {o:Nat} (hg:gguard gd tm=.run) (h:gval tm x=some (.one (.floc us o))):gstep1 P O ⟨dst,gd,r,fr,.fa off x⟩ ⟨tm,hp⟩=some ⟨gput dst (.one (.floc us (o+off))) tm,hp⟩:=by
 unfold gstep1;rw[hg];simp only[grd,gcel_v h]
theorem sBld {zs:List C} {ps:List (Nat×Nat×A)} {gs cs:List G} (hg:gguard gd tm=.run) (hz:each cG zs=some gs) (hf:gfill tm gs ps=some cs):gstep1 P O ⟨dst,gd,r,fr,.bld zs ps⟩ ⟨tm,hp⟩=some ⟨gput dst (.ag cs) tm,hp⟩:=by
 unfold gstep1;rw[hg];simp only[grd,hz,hf]
theorem cNew {i:I} {e:Nat} {cs:List G} {d:Nat→GD} (h:gstep1 P O ⟨dst,gd,r,fr,i⟩ ⟨tm,hp⟩=some ⟨gput dst (d (len hp)) tm,gnew hp e cs⟩)
 (k:∀a hp',Kp hp hp'→nth hp' a=some (.ob e false cs)→∃t,gsteps P O l ⟨gput dst (d a) tm,hp'⟩=some t∧Q t):∃t,gsteps P O (⟨dst,gd,r,fr,i⟩::l) ⟨tm,hp⟩=some t∧Q t:=
 ggo h (k _ _ .new nth_new)
theorem cAlloc {e:Nat} {zs:List C} {cs:List G} (hg:gguard gd tm=.run) (hz:each cG zs=some cs)
 (k:∀a hp',Kp hp hp'→nth hp' a=some (.ob e false cs)→∃t,gsteps P O l ⟨gput dst (.one (.loc a 0)) tm,hp'⟩=some t∧Q t):∃t,gsteps P O (⟨dst,gd,r,fr,.alloc e zs⟩::l) ⟨tm,hp⟩=some t∧Q t:=
 cNew (d:=fun a=>.one (.loc a 0)) (by unfold gstep1;rw[hg];simp only[grd,hz]) k
theorem cBox {e n:Nat} {x:A} {cs:List G} (hg:gguard gd tm=.run) (h:gval tm x=some (.ag cs)) (hn:len cs=n)
 (k:∀a hp',Kp hp hp'→nth hp' a=some (.ob e false cs)→∃t,gsteps P O l ⟨gput dst (.one (.loc a 0)) tm,hp'⟩=some t∧Q t):∃t,gsteps P O (⟨dst,gd,r,fr,.box e n x⟩::l) ⟨tm,hp⟩=some t∧Q t:=
 cNew (d:=fun a=>.one (.loc a 0)) (by
  unfold gstep1;rw[hg];have h1:gcells tm x=some cs:=by unfold gcells;rw[h]
  have h2:Nat.beq (len cs) n=true:=(beq_iff _ _).2 hn;simp only[grd,h1,h2]) k
theorem cBsl {e j n:Nat} {zs:List C} {ps:List (Nat×Nat×A)} {gs cs:List G} (hg:gguard gd tm=.run) (hz:each cG zs=some gs) (hf:gfill tm (rep n gs) ps=some cs)
 (k:∀a hp',Kp hp hp'→nth hp' a=some (.ob e false cs)→∃t,gsteps P O l ⟨gput dst (.one (.own a j n)) tm,hp'⟩=some t∧Q t):∃t,gsteps P O (⟨dst,gd,r,fr,.bsl e j n zs ps⟩::l) ⟨tm,hp⟩=some t∧Q t:=
 cNew (d:=fun a=>.one (.own a j n)) (by unfold gstep1;rw[hg];simp only[grd,hz,hf]) k
theorem cSt {n:Nat} {a x:A} {i o e:Nat} {cs ps ns:List G} (hg:gguard gd tm=.run) (h:gval tm a=some (.one (.loc i o))) (hi:nth hp i=some (.ob e false cs)) (hx:gcells tm x=some ps) (hn:len ps=n) (ho:o+n≤len cs) (hs:splice ps o cs=ns)
 (k:∀hp',Ko e hp hp'→nth hp' i=some (.ob e false ns)→∃t,gsteps P O l ⟨tm,hp'⟩=some t∧Q t):∃t,gsteps P O (⟨none,gd,r,fr,.st n a x⟩::l) ⟨tm,hp⟩=some t∧Q t:=by
 refine ggo (g1:=⟨tm,setO hp i (.ob e false ns)⟩) ?_ (k _ (.set hi) (nth_set1 hi));unfold gstep1;rw[hg];have h1:Nat.ble (o+n) (len cs)=true:=Nat.ble_eq_true_of_le ho;have h2:Nat.beq (len ps) n=true:=(beq_iff _ _).2 hn;simp only[grd,gcel_v h,hi,hx,h1,h2,hs];rfl
theorem gcells_ag {x:A} {cs:List G} (h:gval tm x=some (.ag cs)):gcells tm x=some cs:=by unfold gcells;rw[h]
theorem gcells_one {x:A} {c:G} (h:gval tm x=some (.one c)) (hc:glone c=some [c]):gcells tm x=some [c]:=by unfold gcells;rw[h];exact hc
theorem cApN {e b:Nat} {x y:A} {i:Nat} {f:Bool} {e':Nat} {cs:List G} (hg:gguard gd tm=.run) (h:gval tm x=some (.one (.v .nil))) (hy:gval tm y=some (.one (.own i 1 1))) (hi:nth hp i=some (.ob e' f cs)) (hc:len cs=1) (hb:Nat.ble (1*b) room=true)
 (k:∀a hp',Kp hp hp'→nth hp' a=some (.ob e false cs)→∃t,gsteps P O l ⟨gput dst (.one (.own a 1 1)) tm,hp'⟩=some t∧Q t):∃t,gsteps P O (⟨dst,gd,r,fr,.ap e 1 b x y⟩::l) ⟨tm,hp⟩=some t∧Q t:=
 cNew (d:=fun a=>.one (.own a 1 1)) (by
  unfold gstep1;rw[hg];have h2:gobj hp i=some cs:=by unfold gobj;rw[hi]
  have h3:Nat.beq (len cs) (1*1)=true:=(beq_iff _ _).2 hc;have h4:gelems hp (.own i 1 1)=some (1,1,cs):=by
   show(match gobj hp i with|some cs=>(Bool.rec none (some (1,1,cs)) (Nat.beq (len cs) (1*1)):Option (Nat×Nat×List G))|none=>none)=_;rw[h2];simp only[h3]
  simp only[grd,gcel_v h,gcel_v hy,h4,h3];simp only[ggrow,hb]) k
theorem cApO {e n b:Nat} {x y:A} {a i:Nat} {f:Bool} {old cs:List G} (hg:gguard gd tm=.run) (h:gval tm x=some (.one (.own a 1 n))) (hy:gval tm y=some (.one (.own i 1 1))) (ha:nth hp a=some (.ob e false old)) (ho:len old=n) (hi:nth hp i=some (.ob e f cs)) (hc:len cs=1) (hb:Nat.ble ((n+1)*b) room=true)
 (k:∀a' hp',Ko e hp hp'→nth hp' a'=some (.ob e false (app old cs))→∃t,gsteps P O l ⟨gput dst (.one (.own a' 1 (n+1))) tm,hp'⟩=some t∧Q t):∃t,gsteps P O (⟨dst,gd,r,fr,.ap e 1 b x y⟩::l) ⟨tm,hp⟩=some t∧Q t:=by
 refine ggo (g1:=⟨gput dst (.one (.own (len hp) 1 (n+1))) tm,gnew (setO hp a .dead) e (app old cs)⟩) ?_ (k _ _ ((Ko.set ha).trans (Kp.new.to e)) ?_)
 ·unfold gstep1;rw[hg]
  have h2:gobj hp i=some cs:=by unfold gobj;rw[hi]
  have h3:Nat.beq (len cs) (1*1)=true:=(beq_iff _ _).2 hc;have h4:gelems hp (.own i 1 1)=some (1,1,cs):=by
   show(match gobj hp i with|some cs=>(Bool.rec none (some (1,1,cs)) (Nat.beq (len cs) (1*1)):Option (Nat×Nat×List G))|none=>none)=_;rw[h2];simp only[h3]
  have h5:Nat.beq (len old) (n*1)=true:=(beq_iff _ _).2 (by omega);have h6:Nat.beq e e=true:=Nat.beq_refl e;simp only[grd,gcel_v h,gcel_v hy,h4,h3,ggrow,ha,hb,h5,h6]
 ·have hl:len hp=len (setO hp a .dead):=by rw[len_eq,len_eq,setO_len]
  rw[hl];exact nth_new
def Pu (ds:List GD):Prop:=∀hp,gpure ds hp=some (hp,ds)
theorem Pu.nil:Pu []:=fun _=>rfl
theorem Pu.one {u:U} {ds:List GD} (h:Pu ds):Pu (.one (.v u)::ds):=fun hp=>by
 show(match frz 8 hp (.v u)with
  |some (hp,u)=>match gpure ds hp with|some (hp,ds)=>some (hp,GD.one (.v u)::ds)|none=>none
  |none=>none)=_
 show(match gpure ds hp with|some (hp,ds)=>some (hp,GD.one (.v u)::ds)|none=>none)=_;rw[h hp]
theorem frs_pure:∀{us:List U} {hp:List GO},frs (frz 8) (mapsV us) hp=some (hp,us)
 |[],_=>rfl
 |u::us,hp=>by
  show(match frz 8 hp (.v u)with
   |some (hp,u)=>match frs (frz 8) (mapsV us) hp with|some (hp,us)=>some (hp,u::us)|none=>none
   |none=>none)=_
  show(match frs (frz 8) (mapsV us) hp with|some (hp,us)=>some (hp,u::us)|none=>none)=_;rw[frs_pure]
theorem Pu.ag {us:List U} {ds:List GD} (h:Pu ds):Pu (.ag (mapsV us)::ds):=fun hp=>by
 show(match frs (frz 8) (mapsV us) hp with
  |some (hp,us)=>match gpure ds hp with|some (hp,ds)=>some (hp,GD.ag (mapsV us)::ds)|none=>none
  |none=>none)=_
 rw[frs_pure];show(match gpure ds hp with|some (hp,ds)=>some (hp,GD.ag (mapsV us)::ds)|none=>none)=_;rw[h hp]
theorem gargs_pu {ds ds':List GD} {hp hp':List GO} (h:gpure ds hp=some (hp',ds')) (hn:∀i t,ds≠.one (.loc i 0)::t):gargs hp ds=some (hp',ds',none,[]):=by
 unfold gargs
 split
 ·rename_i i t;exact absurd rfl (hn i t)
 ·rw[h]
theorem Pu.noloc {ds:List GD} (h:Pu ds):∀i t,ds≠.one (.loc i 0)::t:=by
 rintro i t rfl
 have h1:(none:Option (List GO×List GD))=_:=h []
 cases h1
theorem cCall {f:Nat} {xs:List A} {ds:List GD} {u:U} {G:List GO} (hg:gguard gd tm=.run) (h:each (gval tm) xs=some ds) (hd:Pu ds) (hO:O f ds []=some (.one (.v u),G))
 (k:∀hp',Kp hp hp'→∃t,gsteps P O l ⟨gput dst (.one (.v u)) tm,hp'⟩=some t∧Q t):∃t,gsteps P O (⟨dst,gd,r,fr,.call f xs⟩::l) ⟨tm,hp⟩=some t∧Q t:=by
 refine ggo (sCall (d:=.one (.v u)) (hp':=app hp (maps (renGO (rn none (len hp))) G)) hg h ?_) (k _ .app);unfold gcall;rw[gargs_pu (hd hp) hd.noloc];simp only[hO];rfl
theorem maps_v (us:List U) (σ:Nat→Nat):maps (renG σ) (mapsV us)=mapsV us:=by
 rw[maps_eq,mapsV_eq,List.map_map];rfl
theorem cCallA {f:Nat} {xs:List A} {ds:List GD} {us:List U} {G:List GO} (hg:gguard gd tm=.run) (h:each (gval tm) xs=some ds) (hd:Pu ds) (hO:O f ds []=some (.ag (mapsV us),G))
 (k:∀hp',Kp hp hp'→∃t,gsteps P O l ⟨gput dst (.ag (mapsV us)) tm,hp'⟩=some t∧Q t):∃t,gsteps P O (⟨dst,gd,r,fr,.call f xs⟩::l) ⟨tm,hp⟩=some t∧Q t:=by
 refine ggo (sCall (d:=.ag (mapsV us)) (hp':=app hp (maps (renGO (rn none (len hp))) G)) hg h ?_) (k _ .app);unfold gcall;rw[gargs_pu (hd hp) hd.noloc];simp only[hO];show some (GD.ag (maps (renG _) (mapsV us)),_)=_;rw[maps_v]
theorem cCallF {f:Nat} {x:A} {a n e:Nat} {fz:Bool} {us:List U} {u:U} {G:List GO} (hg:gguard gd tm=.run) (h:gval tm x=some (.one (.own a 1 n))) (ha:nth hp a=some (.ob e fz (mapsV us))) (hn:len us=n) (hO:O f [.one (.v (.fz 1 n us))] []=some (.one (.v u),G))
 (k:∀hp',Ko e hp hp'→nth hp' a=some (.ob e true (mapsV us))→∃t,gsteps P O l ⟨gput dst (.one (.v u)) tm,hp'⟩=some t∧Q t):∃t,gsteps P O (⟨dst,gd,r,fr,.call f [x]⟩::l) ⟨tm,hp⟩=some t∧Q t:=by
 have hf:frz 8 hp (.own a 1 n)=some (setO hp a (.ob e true (mapsV us)),.fz 1 n us):=by
  have h0:frz 8 hp (.own a 1 n)=(match nth hp a with
   |some (.ob e fr cs)=>match frs (frz 7) cs hp with
    |some (hp',us)=>match nth hp' a with
     |some (.ob e' fr' _)=>Bool.rec none (some (setO hp' a (.ob e' true (mapsV us)),.fz 1 n us)) (Bool.rec false (Nat.beq e e') (Nat.beq (len us) (n*1)))
     |_=>none
    |none=>none
   |_=>none):=rfl
  rw[h0,ha];have h1:frs (frz 7) (mapsV us) hp=some (hp,us):=frs7;have h2:Nat.beq (len us) (n*1)=true:=(beq_iff _ _).2 (by omega);have h3:Nat.beq e e=true:=Nat.beq_refl e;simp only[h1,ha,h2,h3]
 refine ggo (sCall (ds:=[.one (.own a 1 n)]) (d:=.one (.v u)) (hp':=app (setO hp a (.ob e true (mapsV us))) (maps (renGO (rn none (len (setO hp a (.ob e true (mapsV us)))))) G)) hg (args1 h) ?_) (k _ ((Ko.set ha).trans (Kp.app.to e)) (nth_app1 (nth_set1 ha)));unfold gcall;rw[gargs_pu (hp':=setO hp a (.ob e true (mapsV us))) (ds':=[.one (.v (.fz 1 n us))]) ?_ (by intro i t h;cases h)]
 ·simp only[hO]
  rfl
 ·show(match frz 8 hp (.own a 1 n)with
   |some (hp,u)=>match gpure [] hp with|some (hp,ds)=>some (hp,GD.one (.v u)::ds)|none=>none
   |none=>none)=_
  rw[hf];rfl
 where frs7:∀{us:List U} {hp:List GO},frs (frz 7) (mapsV us) hp=some (hp,us)
  |[],_=>rfl
  |u::us,hp=>by
   show(match frz 7 hp (.v u)with
    |some (hp,u)=>match frs (frz 7) (mapsV us) hp with|some (hp,us)=>some (hp,u::us)|none=>none
    |none=>none)=_
   show(match frs (frz 7) (mapsV us) hp with|some (hp,us)=>some (hp,u::us)|none=>none)=_;rw[frs7]
theorem ldV1 {us:List U} {o:Nat} {u:U} (h:us[o]?=some u):take 1 (drop o (mapsV us))=[.v u]:=by
 rw[take_eq,drop_eq,mapsV_eq,←List.map_drop,←List.map_take];obtain⟨hi,he⟩:=List.getElem?_eq_some_iff.1 h;rw[List.drop_eq_getElem_cons hi,he];rfl
theorem ldVall {us:List U} {n:Nat} (h:us.length=n):take n (drop 0 (mapsV us))=mapsV us:=by
 rw[take_eq,mapsV_eq];show List.take n (us.map G.v)=_;rw[List.take_of_length_le (by rw[List.length_map];omega)]
theorem len_mapsV {us:List U} {n:Nat} (h:us.length=n):len (mapsV us)=n:=by rw[len_eq,mapsV_eq,List.length_map,h]
noncomputable def pc (k i:Nat) (l:List U):List U:=take k (drop (i*k) l)
theorem pc_len {k i n:Nat} {l:List U} (h:l.length=n*k) (hi:i<n):(pc k i l).length=k:=by
 unfold pc;rw[take_eq,drop_eq,List.length_take,List.length_drop,h];have h1:(i+1)*k≤n*k:=Nat.mul_le_mul_right k hi;rw[Nat.add_mul]at h1;omega
theorem ldPk {k i n:Nat} {l:List U} (h:l.length=n*k) (hi:i<n):len (take k (drop (i*k) l))=k:=by
 rw[len_eq];exact pc_len h hi
theorem ldPd {k i:Nat} {l:List U}:gasD true (mapsV (take k (drop (i*k) l)))=some (.ag (mapsV (pc k i l))):=rfl
theorem ldQk {k i o:Nat} {l:List U} {u:U} (ho:o<k) (h:(pc k i l)[o]?=some u):l[i*k+o]?=some u:=by
 unfold pc at h;rw[take_eq,drop_eq,List.getElem?_take_of_lt ho,List.getElem?_drop]at h;exact h
theorem splice_all {ps cs:List G} (h:ps.length=cs.length):splice ps 0 cs=ps:=by
 apply List.ext_getElem?;intro i;rw[splice_get _ _ _ (by omega)]
 split
 ·rename_i hi;rw[Nat.sub_zero]
 ·rename_i hi
  rw[List.getElem?_eq_none (by omega),List.getElem?_eq_none (by omega)]
theorem ldR1k {l:List U} {o:Nat} {u:U} (h:l[o]?=some u):len (take 1 (drop o l))=1:=by
 rw[take_eq,drop_eq,len_eq,List.length_take,List.length_drop];have:=lt_of_get h;omega
theorem ldR1d {l:List U} {o:Nat} {u:U} (h:l[o]?=some u):gasD false (mapsV (take 1 (drop o l)))=some (.one (.v u)):=by
 rw[take_eq,drop_eq,mapsV_eq];obtain⟨hi,he⟩:=List.getElem?_eq_some_iff.1 h;rw[List.drop_eq_getElem_cons hi,he];rfl
end
section
variable{P:Program} {O:Oracle2}
theorem wBodyE {m:Nat} {kp:Bool} {b:Fn} {ds:List GD} {hp:List GO} {d:GD} {tm:Tr GD} (hps:gpars b.ps ds .e=some tm) (h:Wp P O m b.k ⟨tm,hp⟩ (fun o=>∃g',(o=.ret g'∨o=.norm g')∧∃H,gends kp b g'=some (d,H))):∃H,gbody P O m kp b ds hp=some (d,H):=by
 unfold gbody;rw[hps];obtain⟨g',h1,H,h2⟩:=h;refine⟨H,?_⟩;simp only[];rcases h1 with h1|h1<;>rw[h1]<;>exact h2
theorem gends_cell {ps:List Pos} {kd:K} {p:Pos} {tm:Tr GD} {hp:List GO} {a e k:Nat} {f:Bool} {us:List U} (h:Tr.get p tm=some (.one (.loc a 0))) (ha:nth hp a=some (.ob e f (mapsV us))) (hk:us.length=k):gends false ⟨ps,[.cell p k true],kd⟩ ⟨tm,hp⟩=some (.ag (mapsV us),hp):=by
 unfold gends;have h1:each (grv ⟨tm,hp⟩) [Rv.cell p k true]=some [.ag (mapsV us)]:=by
  have h0:grv ⟨tm,hp⟩ (.cell p k true)=some (.ag (mapsV us)):=by
   have h2:gobj hp a=some (mapsV us):=by unfold gobj;rw[ha]
   have h3:Nat.beq (len (mapsV us)) k=true:=(beq_iff _ _).2 (len_mapsV hk);simp only[grv,h,h2,ldVall hk,h3];rfl
  rw[each_cons,each_nil,h0]
 simp only[h1];have h4:gfin [.ag (mapsV us)] hp=some (hp,[.ag (mapsV us)]):=by
  show(match frs (frz 8) (mapsV us) hp with
   |some (hp,us)=>match gfin [] hp with|some (hp,ds)=>some (hp,GD.ag (mapsV us)::ds)|none=>none
   |none=>none)=_
  rw[frs_pure];rfl
 simp only[h4]
end
end Go.Proofs.YtiahijhpjloijaaGreat.V

namespace Go.Proofs.YtiahijhpjloijaaGreat.V
open Go
theorem val55Z {fc:List U} {mo un nw:Int} {P:Program} {O:Oracle2} {m:Nat} {hp:List GO} (hf:fc.length=8) (h0:fc[0]?=some (.int .i64 mo)) (h1:fc[1]?=some (.int .i64 un)) (hc:cbin .geq (.int .i64 nw) (.int .i64 un)=some (.bool true)):∃H,gbody P O m false b55 [.ag (mapsV fc),.one (.v (.int .i64 nw))] hp=some (.one (.v (.int .i64 (0))),H):=by
 refine wBodyE (tm:=(gput (some p1) (.one (.v (.int .i64 nw))) (gput (some p0) (.ag (mapsV fc)) .e))) rfl (wSeq (wBlk (cBox rfl rfl (len_mapsV hf) ?_)));intro ax1 hpx2 mx3 wx4;refine ggo (sMv rfl rfl) (gnil (nNorm (wSeq (wSeq (wBlk (ggo (sMv rfl rfl) (ggo (sFaL rfl rfl) (ggo (sLdO (d:=.one (.v (.int .i64 un))) rfl rfl wx4 (ldV1 h1) rfl rfl) (ggo (sBin (c:=.bool true) rfl rfl rfl rfl rfl hc rfl) (gnil (nNorm ?_)))))))))));refine wCond (t:=true) rfl (wSeq (wBlk (ggo (sMv rfl rfl) (gnil (nNorm (wRet (nRet ?_)))))));exact⟨_,.inl rfl,_,gends_tmp rfl⟩
theorem val55M {fc:List U} {mo un nw:Int} {P:Program} {O:Oracle2} {m:Nat} {hp:List GO} (hf:fc.length=8) (h0:fc[0]?=some (.int .i64 mo)) (h1:fc[1]?=some (.int .i64 un)) (hc:cbin .geq (.int .i64 nw) (.int .i64 un)=some (.bool false)):∃H,gbody P O m false b55 [.ag (mapsV fc),.one (.v (.int .i64 nw))] hp=some (.one (.v (.int .i64 mo)),H):=by
 refine wBodyE (tm:=(gput (some p1) (.one (.v (.int .i64 nw))) (gput (some p0) (.ag (mapsV fc)) .e))) rfl (wSeq (wBlk (cBox rfl rfl (len_mapsV hf) ?_)));intro ax1 hpx2 mx3 wx4;refine ggo (sMv rfl rfl) (gnil (nNorm (wSeq (wSeq (wBlk (ggo (sMv rfl rfl) (ggo (sFaL rfl rfl) (ggo (sLdO (d:=.one (.v (.int .i64 un))) rfl rfl wx4 (ldV1 h1) rfl rfl) (ggo (sBin (c:=.bool false) rfl rfl rfl rfl rfl hc rfl) (gnil (nNorm ?_)))))))))));refine wCond (t:=false) rfl (wSkip (nNorm (wSeq (wBlk (ggo (sFaL rfl rfl) (ggo (sLdO (d:=.one (.v (.int .i64 mo))) rfl rfl wx4 (ldV1 h0) rfl rfl) (ggo (sMv rfl rfl) (gnil (nNorm (wRet ?_))))))))));exact⟨_,.inl rfl,_,gends_tmp rfl⟩
theorem val63M {fc:List U} {mo un nw:Int} {P:Program} {O:Oracle2} {m:Nat} {hp:List GO} (hf:fc.length=8) (h0:fc[0]?=some (.int .i64 mo)) (h1:fc[1]?=some (.int .i64 un)) (hc:cbin .lss (.int .i64 nw) (.int .i64 un)=some (.bool true)):∃H,gbody P O m false b63 [.ag (mapsV fc),.one (.v (.int .i64 nw))] hp=some (.one (.v (.int .i64 mo)),H):=by
 refine wBodyE (tm:=(gput (some p1) (.one (.v (.int .i64 nw))) (gput (some p0) (.ag (mapsV fc)) .e))) rfl (wSeq (wBlk (cBox rfl rfl (len_mapsV hf) ?_)));intro ax1 hpx2 mx3 wx4;refine ggo (sMv rfl rfl) (gnil (nNorm (wSeq (wSeq (wBlk (ggo (sMv rfl rfl) (ggo (sFaL rfl rfl) (ggo (sLdO (d:=.one (.v (.int .i64 un))) rfl rfl wx4 (ldV1 h1) rfl rfl) (ggo (sBin (c:=.bool true) rfl rfl rfl rfl rfl hc rfl) (gnil (nNorm ?_)))))))))));refine wCond (t:=true) rfl (wSeq (wBlk (ggo (sFaL rfl rfl) (ggo (sLdO (d:=.one (.v (.int .i64 mo))) rfl rfl wx4 (ldV1 h0) rfl rfl) (ggo (sMv rfl rfl) (gnil (nNorm (wRet (nRet ?_)))))))));exact⟨_,.inl rfl,_,gends_tmp rfl⟩
theorem val63Z {fc:List U} {mo un nw:Int} {P:Program} {O:Oracle2} {m:Nat} {hp:List GO} (hf:fc.length=8) (h0:fc[0]?=some (.int .i64 mo)) (h1:fc[1]?=some (.int .i64 un)) (hc:cbin .lss (.int .i64 nw) (.int .i64 un)=some (.bool false)):∃H,gbody P O m false b63 [.ag (mapsV fc),.one (.v (.int .i64 nw))] hp=some (.one (.v (.int .i64 (0))),H):=by
 refine wBodyE (tm:=(gput (some p1) (.one (.v (.int .i64 nw))) (gput (some p0) (.ag (mapsV fc)) .e))) rfl (wSeq (wBlk (cBox rfl rfl (len_mapsV hf) ?_)));intro ax1 hpx2 mx3 wx4;refine ggo (sMv rfl rfl) (gnil (nNorm (wSeq (wSeq (wBlk (ggo (sMv rfl rfl) (ggo (sFaL rfl rfl) (ggo (sLdO (d:=.one (.v (.int .i64 un))) rfl rfl wx4 (ldV1 h1) rfl rfl) (ggo (sBin (c:=.bool false) rfl rfl rfl rfl rfl hc rfl) (gnil (nNorm ?_)))))))))));refine wCond (t:=false) rfl (wSkip (nNorm (wSeq (wBlk (ggo (sMv rfl rfl) (gnil (nNorm (wRet ?_))))))));exact⟨_,.inl rfl,_,gends_tmp rfl⟩
theorem lt1F {i:Nat}:cbin .lss (.int .i64 (.ofNat (i+1))) (.int .i64 (1))=some (.bool false):=by
 show some (C.bool (Nat.ble (Nat.succ (i+1)) 1))=_;rfl
theorem gtF {i j:Nat} (h:i≤j):cbin .gtr (.int .i64 (.ofNat i)) (.int .i64 (.ofNat j))=some (.bool false):=by
 show some (C.bool (Nat.ble (Nat.succ j) i))=_
 cases hb:Nat.ble (Nat.succ j) i with
 |false=>rfl
 |true=>rw[ble_iff]at hb;omega
theorem dec64 {i:Nat} (h:i<4611686018427387904):cbin .sub (.int .i64 (.ofNat (i+1))) (.int .i64 1)=some (.int .i64 (.ofNat i)):=by
 show some (C.int .i64 (wrapC .i64 (Int.subNatNat (i+1) 1)))=_;rw[show Int.subNatNat (i+1) 1=.ofNat i from by rw[Int.subNatNat_of_le (by omega)];rfl,wrap64' (by omega)]
theorem valid37 {ws cl fl:List U} {i j:Nat} {mo un nw md d:Int} {G:List GO} {P:Program} {O:Oracle2} {m:Nat} {hp:List GO} (hw:ws.length=19) (h17:ws[17]?=some (.fz 20 3 cl)) (hcl:cl.length=3*20) (hi:i<3) (h4:(pc 20 i cl)[4]?=some (.fz 8 6 fl)) (hnw:(pc 20 i cl)[1]?=some (.int .i64 nw)) (hfl:fl.length=6*8) (hj:j<6) (h63:O 63 [.ag (mapsV (pc 8 j fl)),.one (.v (.int .i64 nw))] []=some (.one (.v (.int .i64 md)),G)):∃H,gbody P O m false b37 [.ag (mapsV ws),.one (.v (.int .i64 (.ofNat (i+1)))),.one (.v (.int .i64 (.ofNat (j+1))))] hp=some (.one (.v (.int .i64 md)),H):=by
 refine wBodyE (tm:=(gput (some p2) (.one (.v (.int .i64 (.ofNat (j+1))))) (gput (some p1) (.one (.v (.int .i64 (.ofNat (i+1))))) (gput (some p0) (.ag (mapsV ws)) .e)))) rfl (wSeq (wBlk (cBox rfl rfl (len_mapsV hw) ?_)));intro ax1 hpx2 mx3 wx4;refine ggo (sMv rfl rfl) (gnil (nNorm (wSeq (wSeq (wBlk (ggo (sMv rfl rfl) (ggo (sBin (c:=.bool false) rfl rfl rfl rfl rfl lt1F rfl) (ggo (sMv rfl rfl) (ggo (sMv (grun rfl) rfl) (ggo (sFaL (grun rfl) rfl) (ggo (sLdO (d:=.one (.v (.fz 20 3 cl))) (grun rfl) rfl wx4 (ldV1 h17) rfl rfl) ?_)))))))))));refine ggo (sLenF (grun rfl) rfl) (ggo (sBin (c:=.bool false) (grun rfl) rfl rfl rfl rfl (gtF (by omega)) rfl) (ggo (sPick (d:=.one (.v (.bool false))) rfl rfl rfl) (ggo (sMv rfl rfl) (ggo (sMv (grun rfl) rfl) (ggo (sBin (c:=.bool false) (grun rfl) rfl rfl rfl rfl lt1F rfl) (ggo (sPick (d:=.one (.v (.bool false))) rfl rfl rfl) (ggo (sMv rfl rfl) (ggo (sMv (grun rfl) rfl) (ggo (sFaL (grun rfl) rfl) (ggo (sLdO (d:=.one (.v (.fz 20 3 cl))) (grun rfl) rfl wx4 (ldV1 h17) rfl rfl) (ggo (sMv (grun rfl) rfl) ?_)))))))))));refine ggo (sBin (c:=.int .i64 (.ofNat i)) (grun rfl) rfl rfl rfl rfl (dec64 (by omega)) rfl) (ggo (sIasF (j:=i) (grun rfl) rfl rfl hi) (ggo (sFaF (grun rfl) rfl) (ggo (sLdF (d:=.one (.v (.fz 8 6 fl))) (grun rfl) rfl (ldR1k (ldQk (by decide) h4)) (ldR1d (ldQk (by decide) h4))) (ggo (sLenF (grun rfl) rfl) (ggo (sBin (c:=.bool false) (grun rfl) rfl rfl rfl rfl (gtF (by omega)) rfl) (ggo (sPick (d:=.one (.v (.bool false))) rfl rfl rfl) (gnil (nNorm (wCond (t:=false) rfl (wSkip (nNorm ?_)))))))))));refine wSeq (wBlk (ggo (sFaL rfl rfl) (ggo (sLdO (d:=.one (.v (.fz 20 3 cl))) rfl rfl wx4 (ldV1 h17) rfl rfl) (ggo (sMv rfl rfl) (ggo (sBin (c:=.int .i64 (.ofNat i)) rfl rfl rfl rfl rfl (dec64 (by omega)) rfl) (ggo (sIasF (j:=i) rfl rfl rfl hi) (ggo (sLdF rfl rfl (ldPk hcl hi) ldPd) (cAlloc (cs:=mapsV [.int .i64 (0),.int .i64 (0),.int .i64 (0),.int .i64 (0),.nil,.nil,.bool false,.int .i64 (0),.int .i64 (0),.int .i64 (0),.int .i64 (0),.str [],.int .i64 (0),.int .i64 (0),.nil,.int .i64 (0),.int .i64 (0),.int .i64 (0),.int .i64 (0),.int .i64 (0)]) rfl rfl ?_))))))));intro ax5 hpx6 mx7 wx8;replace wx4:=mx7 _ _ wx4;refine cSt (ns:=mapsV (pc 20 i cl)) rfl rfl wx8 (gcells_ag rfl) (len_mapsV (pc_len hcl hi)) (Nat.le_of_ble_eq_true rfl) (splice_all (by rw[←len_eq,len_mapsV (pc_len hcl hi)];rfl)) ?_;intro hpx9 mx10 wx11;replace wx4:=mx10 _ _ _ _ (by decide) wx4;refine gnil (nNorm (wSeq (wDblk (ggo (sFaL rfl rfl) (ggo (sLdO (d:=.one (.v (.fz 8 6 fl))) rfl rfl wx11 (ldV1 h4) rfl rfl) (ggo (sMv rfl rfl) (ggo (sBin (c:=.int .i64 (.ofNat j)) rfl rfl rfl rfl rfl (dec64 (by omega)) rfl) (ggo (sIasF (j:=j) rfl rfl rfl hj) (ggo (sLdF rfl rfl (ldPk hfl hj) ldPd) (ggo (sFaL rfl rfl) (ggo (sLdO (d:=.one (.v (.int .i64 nw))) rfl rfl wx11 (ldV1 hnw) rfl rfl) ?_)))))))))));refine cCall (ds:=[.ag (mapsV (pc 8 j fl)),.one (.v (.int .i64 nw))]) rfl (args2 (rfl) (rfl)) (.ag (.one .nil)) (h63) ?_;intro hpx12 mx13;replace wx4:=mx13 _ _ wx4;replace wx11:=mx13 _ _ wx11;refine ggo (sMv rfl rfl) (gnil (nNorm (wRet ?_)));exact⟨_,.inl rfl,_,gends_tmp rfl⟩
theorem left26Z {ws cl fl:List U} {i j:Nat} {mo un nw md d:Int} {G:List GO} {P:Program} {O:Oracle2} {m:Nat} {hp:List GO} (hw:ws.length=19) (h17:ws[17]?=some (.fz 20 3 cl)) (hcl:cl.length=3*20) (hi:i<3) (h4:(pc 20 i cl)[4]?=some (.fz 8 6 fl)) (hnw:(pc 20 i cl)[1]?=some (.int .i64 nw)) (hfl:fl.length=6*8) (hj:j<6) (h55:O 55 [.ag (mapsV (pc 8 j fl)),.one (.v (.int .i64 nw))] []=some (.one (.v (.int .i64 md)),G)) (hz:cbin .eql (.int .i64 md) (.int .i64 (0))=some (.bool true)):∃H,gbody P O m false b26 [.ag (mapsV ws),.one (.v (.int .i64 (.ofNat (i+1)))),.one (.v (.int .i64 (.ofNat (j+1))))] hp=some (.one (.v (.int .i64 (0))),H):=by
 refine wBodyE (tm:=(gput (some p2) (.one (.v (.int .i64 (.ofNat (j+1))))) (gput (some p1) (.one (.v (.int .i64 (.ofNat (i+1))))) (gput (some p0) (.ag (mapsV ws)) .e)))) rfl (wSeq (wBlk (cBox rfl rfl (len_mapsV hw) ?_)));intro ax1 hpx2 mx3 wx4;refine ggo (sMv rfl rfl) (gnil (nNorm (wSeq (wSeq (wBlk (ggo (sMv rfl rfl) (ggo (sBin (c:=.bool false) rfl rfl rfl rfl rfl lt1F rfl) (ggo (sMv rfl rfl) (ggo (sMv (grun rfl) rfl) (ggo (sFaL (grun rfl) rfl) (ggo (sLdO (d:=.one (.v (.fz 20 3 cl))) (grun rfl) rfl wx4 (ldV1 h17) rfl rfl) ?_)))))))))));refine ggo (sLenF (grun rfl) rfl) (ggo (sBin (c:=.bool false) (grun rfl) rfl rfl rfl rfl (gtF (by omega)) rfl) (ggo (sPick (d:=.one (.v (.bool false))) rfl rfl rfl) (gnil (nNorm (wCond (t:=false) rfl (wSkip (nNorm (wSeq (wBlk (ggo (sFaL rfl rfl) (ggo (sLdO (d:=.one (.v (.fz 20 3 cl))) rfl rfl wx4 (ldV1 h17) rfl rfl) ?_)))))))))));refine ggo (sMv rfl rfl) (ggo (sBin (c:=.int .i64 (.ofNat i)) rfl rfl rfl rfl rfl (dec64 (by omega)) rfl) (ggo (sIasF (j:=i) rfl rfl rfl hi) (ggo (sLdF rfl rfl (ldPk hcl hi) ldPd) (cAlloc (cs:=mapsV [.int .i64 (0),.int .i64 (0),.int .i64 (0),.int .i64 (0),.nil,.nil,.bool false,.int .i64 (0),.int .i64 (0),.int .i64 (0),.int .i64 (0),.str [],.int .i64 (0),.int .i64 (0),.nil,.int .i64 (0),.int .i64 (0),.int .i64 (0),.int .i64 (0),.int .i64 (0)]) rfl rfl ?_))));intro ax5 hpx6 mx7 wx8;replace wx4:=mx7 _ _ wx4;refine cSt (ns:=mapsV (pc 20 i cl)) rfl rfl wx8 (gcells_ag rfl) (len_mapsV (pc_len hcl hi)) (Nat.le_of_ble_eq_true rfl) (splice_all (by rw[←len_eq,len_mapsV (pc_len hcl hi)];rfl)) ?_;intro hpx9 mx10 wx11;replace wx4:=mx10 _ _ _ _ (by decide) wx4;refine gnil (nNorm (wSeq (wSeq (wDblk (ggo (sMv rfl rfl) (ggo (sBin (c:=.bool false) rfl rfl rfl rfl rfl lt1F rfl) (ggo (sMv rfl rfl) (ggo (sMv (grun rfl) rfl) (ggo (sFaL (grun rfl) rfl) (ggo (sLdO (d:=.one (.v (.fz 8 6 fl))) (grun rfl) rfl wx11 (ldV1 h4) rfl rfl) (ggo (sLenF (grun rfl) rfl) ?_)))))))))));refine ggo (sBin (c:=.bool false) (grun rfl) rfl rfl rfl rfl (gtF (by omega)) rfl) (ggo (sPick (d:=.one (.v (.bool false))) rfl rfl rfl) (ggo (sMv rfl rfl) (ggo (sFaL (grun rfl) rfl) (ggo (sLdO (d:=.one (.v (.fz 8 6 fl))) (grun rfl) rfl wx11 (ldV1 h4) rfl rfl) (ggo (sMv (grun rfl) rfl) (ggo (sBin (c:=.int .i64 (.ofNat j)) (grun rfl) rfl rfl rfl rfl (dec64 (by omega)) rfl) (ggo (sIasF (j:=j) (grun rfl) rfl rfl hj) (ggo (sLdF (grun rfl) rfl (ldPk hfl hj) ldPd) (ggo (sFaL (grun rfl) rfl) (ggo (sLdO (d:=.one (.v (.int .i64 nw))) (grun rfl) rfl wx11 (ldV1 hnw) rfl rfl) (cCall (ds:=[.ag (mapsV (pc 8 j fl)),.one (.v (.int .i64 nw))]) (grun rfl) (args2 (rfl) (rfl)) (.ag (.one .nil)) (h55) ?_)))))))))));intro hpx12 mx13;replace wx4:=mx13 _ _ wx4;replace wx11:=mx13 _ _ wx11;refine ggo (sBin (c:=.bool true) (grun rfl) rfl rfl rfl rfl hz rfl) (ggo (sPick (d:=.one (.v (.bool true))) rfl rfl rfl) (gnil (nNorm (wCond (t:=true) rfl (wSeq (wBlk (ggo (sMv rfl rfl) (gnil (nNorm (wRet (nRet ?_)))))))))));exact⟨_,.inl rfl,_,gends_tmp rfl⟩
theorem left15Z {ws cl fl:List U} {i j:Nat} {mo un nw md d:Int} {G:List GO} {P:Program} {O:Oracle2} {m:Nat} {hp:List GO} (hw:ws.length=19) (h17:ws[17]?=some (.fz 20 3 cl)) (hcl:cl.length=3*20) (hi:i<3) (h4:(pc 20 i cl)[4]?=some (.fz 8 6 fl)) (hnw:(pc 20 i cl)[1]?=some (.int .i64 nw)) (hfl:fl.length=6*8) (hj:j<6) (h37:O 37 [.ag (mapsV ws),.one (.v (.int .i64 (.ofNat (i+1)))),.one (.v (.int .i64 (.ofNat (j+1))))] []=some (.one (.v (.int .i64 md)),G)) (hz:cbin .eql (.int .i64 md) (.int .i64 (0))=some (.bool true)):∃H,gbody P O m false b15 [.ag (mapsV ws),.one (.v (.int .i64 (.ofNat (i+1)))),.one (.v (.int .i64 (.ofNat (j+1))))] hp=some (.one (.v (.int .i64 (0))),H):=by
 refine wBodyE (tm:=(gput (some p2) (.one (.v (.int .i64 (.ofNat (j+1))))) (gput (some p1) (.one (.v (.int .i64 (.ofNat (i+1))))) (gput (some p0) (.ag (mapsV ws)) .e)))) rfl (wSeq (wBlk (cBox rfl rfl (len_mapsV hw) ?_)));intro ax1 hpx2 mx3 wx4;refine ggo (sMv rfl rfl) (gnil (nNorm (wSeq (wSeq (wBlk (ggo (sLdO rfl rfl wx4 (ldVall hw) (len_mapsV hw) rfl) (ggo (sMv rfl rfl) (ggo (sMv rfl rfl) (cCall (ds:=[.ag (mapsV ws),.one (.v (.int .i64 (.ofNat (i+1)))),.one (.v (.int .i64 (.ofNat (j+1))))]) rfl (args3 (rfl) (rfl) (rfl)) (.ag (.one (.one .nil))) (h37) ?_)))))))));intro hpx5 mx6;replace wx4:=mx6 _ _ wx4;refine ggo (sBin (c:=.bool true) rfl rfl rfl rfl rfl hz rfl) (gnil (nNorm (wCond (t:=true) rfl (wSeq (wBlk (ggo (sMv rfl rfl) (gnil (nNorm (wRet (nRet ?_))))))))));exact⟨_,.inl rfl,_,gends_tmp rfl⟩
theorem left26 {ws cl fl:List U} {i j:Nat} {mo un nw md d:Int} {G:List GO} {P:Program} {O:Oracle2} {m:Nat} {hp:List GO} (hw:ws.length=19) (h17:ws[17]?=some (.fz 20 3 cl)) (hcl:cl.length=3*20) (hi:i<3) (h4:(pc 20 i cl)[4]?=some (.fz 8 6 fl)) (hnw:(pc 20 i cl)[1]?=some (.int .i64 nw)) (hfl:fl.length=6*8) (hj:j<6) (h55:O 55 [.ag (mapsV (pc 8 j fl)),.one (.v (.int .i64 nw))] []=some (.one (.v (.int .i64 md)),G)) (hz:cbin .eql (.int .i64 md) (.int .i64 (0))=some (.bool false)) (hun:(pc 8 j fl)[1]?=some (.int .i64 un)) (hd:cbin .sub (.int .i64 un) (.int .i64 nw)=some (.int .i64 d)):∃H,gbody P O m false b26 [.ag (mapsV ws),.one (.v (.int .i64 (.ofNat (i+1)))),.one (.v (.int .i64 (.ofNat (j+1))))] hp=some (.one (.v (.int .i64 d)),H):=by
 refine wBodyE (tm:=(gput (some p2) (.one (.v (.int .i64 (.ofNat (j+1))))) (gput (some p1) (.one (.v (.int .i64 (.ofNat (i+1))))) (gput (some p0) (.ag (mapsV ws)) .e)))) rfl (wSeq (wBlk (cBox rfl rfl (len_mapsV hw) ?_)));intro ax1 hpx2 mx3 wx4;refine ggo (sMv rfl rfl) (gnil (nNorm (wSeq (wSeq (wBlk (ggo (sMv rfl rfl) (ggo (sBin (c:=.bool false) rfl rfl rfl rfl rfl lt1F rfl) (ggo (sMv rfl rfl) (ggo (sMv (grun rfl) rfl) (ggo (sFaL (grun rfl) rfl) (ggo (sLdO (d:=.one (.v (.fz 20 3 cl))) (grun rfl) rfl wx4 (ldV1 h17) rfl rfl) ?_)))))))))));refine ggo (sLenF (grun rfl) rfl) (ggo (sBin (c:=.bool false) (grun rfl) rfl rfl rfl rfl (gtF (by omega)) rfl) (ggo (sPick (d:=.one (.v (.bool false))) rfl rfl rfl) (gnil (nNorm (wCond (t:=false) rfl (wSkip (nNorm (wSeq (wBlk (ggo (sFaL rfl rfl) (ggo (sLdO (d:=.one (.v (.fz 20 3 cl))) rfl rfl wx4 (ldV1 h17) rfl rfl) ?_)))))))))));refine ggo (sMv rfl rfl) (ggo (sBin (c:=.int .i64 (.ofNat i)) rfl rfl rfl rfl rfl (dec64 (by omega)) rfl) (ggo (sIasF (j:=i) rfl rfl rfl hi) (ggo (sLdF rfl rfl (ldPk hcl hi) ldPd) (cAlloc (cs:=mapsV [.int .i64 (0),.int .i64 (0),.int .i64 (0),.int .i64 (0),.nil,.nil,.bool false,.int .i64 (0),.int .i64 (0),.int .i64 (0),.int .i64 (0),.str [],.int .i64 (0),.int .i64 (0),.nil,.int .i64 (0),.int .i64 (0),.int .i64 (0),.int .i64 (0),.int .i64 (0)]) rfl rfl ?_))));intro ax5 hpx6 mx7 wx8;replace wx4:=mx7 _ _ wx4;refine cSt (ns:=mapsV (pc 20 i cl)) rfl rfl wx8 (gcells_ag rfl) (len_mapsV (pc_len hcl hi)) (Nat.le_of_ble_eq_true rfl) (splice_all (by rw[←len_eq,len_mapsV (pc_len hcl hi)];rfl)) ?_;intro hpx9 mx10 wx11;replace wx4:=mx10 _ _ _ _ (by decide) wx4;refine gnil (nNorm (wSeq (wSeq (wDblk (ggo (sMv rfl rfl) (ggo (sBin (c:=.bool false) rfl rfl rfl rfl rfl lt1F rfl) (ggo (sMv rfl rfl) (ggo (sMv (grun rfl) rfl) (ggo (sFaL (grun rfl) rfl) (ggo (sLdO (d:=.one (.v (.fz 8 6 fl))) (grun rfl) rfl wx11 (ldV1 h4) rfl rfl) (ggo (sLenF (grun rfl) rfl) ?_)))))))))));refine ggo (sBin (c:=.bool false) (grun rfl) rfl rfl rfl rfl (gtF (by omega)) rfl) (ggo (sPick (d:=.one (.v (.bool false))) rfl rfl rfl) (ggo (sMv rfl rfl) (ggo (sFaL (grun rfl) rfl) (ggo (sLdO (d:=.one (.v (.fz 8 6 fl))) (grun rfl) rfl wx11 (ldV1 h4) rfl rfl) (ggo (sMv (grun rfl) rfl) (ggo (sBin (c:=.int .i64 (.ofNat j)) (grun rfl) rfl rfl rfl rfl (dec64 (by omega)) rfl) (ggo (sIasF (j:=j) (grun rfl) rfl rfl hj) (ggo (sLdF (grun rfl) rfl (ldPk hfl hj) ldPd) (ggo (sFaL (grun rfl) rfl) (ggo (sLdO (d:=.one (.v (.int .i64 nw))) (grun rfl) rfl wx11 (ldV1 hnw) rfl rfl) (cCall (ds:=[.ag (mapsV (pc 8 j fl)),.one (.v (.int .i64 nw))]) (grun rfl) (args2 (rfl) (rfl)) (.ag (.one .nil)) (h55) ?_)))))))))));intro hpx12 mx13;replace wx4:=mx13 _ _ wx4;replace wx11:=mx13 _ _ wx11;refine ggo (sBin (c:=.bool false) (grun rfl) rfl rfl rfl rfl hz rfl) (ggo (sPick (d:=.one (.v (.bool false))) rfl rfl rfl) (gnil (nNorm (wCond (t:=false) rfl (wSkip (nNorm (wSeq (wDblk (ggo (sFaL rfl rfl) (ggo (sLdO (d:=.one (.v (.fz 8 6 fl))) rfl rfl wx11 (ldV1 h4) rfl rfl) (ggo (sMv rfl rfl) ?_)))))))))));refine ggo (sBin (c:=.int .i64 (.ofNat j)) rfl rfl rfl rfl rfl (dec64 (by omega)) rfl) (ggo (sIasF (j:=j) rfl rfl rfl hj) (ggo (sFaF rfl rfl) (ggo (sLdF (d:=.one (.v (.int .i64 un))) rfl rfl (ldR1k (ldQk (by decide) hun)) (ldR1d (ldQk (by decide) hun))) (ggo (sFaL rfl rfl) (ggo (sLdO (d:=.one (.v (.int .i64 nw))) rfl rfl wx11 (ldV1 hnw) rfl rfl) (ggo (sBin (c:=.int .i64 d) rfl rfl rfl rfl rfl hd rfl) (ggo (sMv rfl rfl) (gnil (nNorm (wRet ?_))))))))));exact⟨_,.inl rfl,_,gends_tmp rfl⟩
theorem left15 {ws cl fl:List U} {i j:Nat} {mo un nw md d:Int} {G:List GO} {P:Program} {O:Oracle2} {m:Nat} {hp:List GO} (hw:ws.length=19) (h17:ws[17]?=some (.fz 20 3 cl)) (hcl:cl.length=3*20) (hi:i<3) (h4:(pc 20 i cl)[4]?=some (.fz 8 6 fl)) (hnw:(pc 20 i cl)[1]?=some (.int .i64 nw)) (hfl:fl.length=6*8) (hj:j<6) (h37:O 37 [.ag (mapsV ws),.one (.v (.int .i64 (.ofNat (i+1)))),.one (.v (.int .i64 (.ofNat (j+1))))] []=some (.one (.v (.int .i64 md)),G)) (hz:cbin .eql (.int .i64 md) (.int .i64 (0))=some (.bool false)) (hun:(pc 8 j fl)[1]?=some (.int .i64 un)) (hd:cbin .sub (.int .i64 un) (.int .i64 nw)=some (.int .i64 d)):∃H,gbody P O m false b15 [.ag (mapsV ws),.one (.v (.int .i64 (.ofNat (i+1)))),.one (.v (.int .i64 (.ofNat (j+1))))] hp=some (.one (.v (.int .i64 d)),H):=by
 refine wBodyE (tm:=(gput (some p2) (.one (.v (.int .i64 (.ofNat (j+1))))) (gput (some p1) (.one (.v (.int .i64 (.ofNat (i+1))))) (gput (some p0) (.ag (mapsV ws)) .e)))) rfl (wSeq (wBlk (cBox rfl rfl (len_mapsV hw) ?_)));intro ax1 hpx2 mx3 wx4;refine ggo (sMv rfl rfl) (gnil (nNorm (wSeq (wSeq (wBlk (ggo (sLdO rfl rfl wx4 (ldVall hw) (len_mapsV hw) rfl) (ggo (sMv rfl rfl) (ggo (sMv rfl rfl) (cCall (ds:=[.ag (mapsV ws),.one (.v (.int .i64 (.ofNat (i+1)))),.one (.v (.int .i64 (.ofNat (j+1))))]) rfl (args3 (rfl) (rfl) (rfl)) (.ag (.one (.one .nil))) (h37) ?_)))))))));intro hpx5 mx6;replace wx4:=mx6 _ _ wx4;refine ggo (sBin (c:=.bool false) rfl rfl rfl rfl rfl hz rfl) (gnil (nNorm (wCond (t:=false) rfl (wSkip (nNorm (wSeq (wBlk (ggo (sFaL rfl rfl) (ggo (sLdO (d:=.one (.v (.fz 20 3 cl))) rfl rfl wx4 (ldV1 h17) rfl rfl) (ggo (sMv rfl rfl) (ggo (sBin (c:=.int .i64 (.ofNat i)) rfl rfl rfl rfl rfl (dec64 (by omega)) rfl) ?_)))))))))));refine ggo (sIasF (j:=i) rfl rfl rfl hi) (ggo (sLdF rfl rfl (ldPk hcl hi) ldPd) (cAlloc (cs:=mapsV [.int .i64 (0),.int .i64 (0),.int .i64 (0),.int .i64 (0),.nil,.nil,.bool false,.int .i64 (0),.int .i64 (0),.int .i64 (0),.int .i64 (0),.str [],.int .i64 (0),.int .i64 (0),.nil,.int .i64 (0),.int .i64 (0),.int .i64 (0),.int .i64 (0),.int .i64 (0)]) rfl rfl ?_));intro ax7 hpx8 mx9 wx10;replace wx4:=mx9 _ _ wx4;refine cSt (ns:=mapsV (pc 20 i cl)) rfl rfl wx10 (gcells_ag rfl) (len_mapsV (pc_len hcl hi)) (Nat.le_of_ble_eq_true rfl) (splice_all (by rw[←len_eq,len_mapsV (pc_len hcl hi)];rfl)) ?_;intro hpx11 mx12 wx13;replace wx4:=mx12 _ _ _ _ (by decide) wx4;refine gnil (nNorm (wSeq (wDblk (ggo (sFaL rfl rfl) (ggo (sLdO (d:=.one (.v (.fz 8 6 fl))) rfl rfl wx13 (ldV1 h4) rfl rfl) (ggo (sMv rfl rfl) (ggo (sBin (c:=.int .i64 (.ofNat j)) rfl rfl rfl rfl rfl (dec64 (by omega)) rfl) (ggo (sIasF (j:=j) rfl rfl rfl hj) (ggo (sFaF rfl rfl) (ggo (sLdF (d:=.one (.v (.int .i64 un))) rfl rfl (ldR1k (ldQk (by decide) hun)) (ldR1d (ldQk (by decide) hun))) (ggo (sFaL rfl rfl) ?_)))))))))));refine ggo (sLdO (d:=.one (.v (.int .i64 nw))) rfl rfl wx13 (ldV1 hnw) rfl rfl) (ggo (sBin (c:=.int .i64 d) rfl rfl rfl rfl rfl hd rfl) (ggo (sMv rfl rfl) (gnil (nNorm (wRet ?_)))));exact⟨_,.inl rfl,_,gends_tmp rfl⟩
end Go.Proofs.YtiahijhpjloijaaGreat.V

namespace Go.Proofs.YtiahijhpjloijaaGreat.V
open Go
section
variable{P:Program} {O:Oracle2} {n:Nat} {Q:GOut→Prop} {g:GS}
end
theorem gfill_cons {tm:Tr GD} {zs:List G} {o k:Nat} {a:A} {l:List G} {ps:List (Nat×Nat×A)} (h:gcells tm a=some l) (hk:Nat.beq (len l) k=true) (ho:Nat.ble (o+k) (len zs)=true):gfill tm zs ((o,k,a)::ps)=gfill tm (splice l o zs) ps:=by
 have h0:gfill tm zs ((o,k,a)::ps)=(match gcells tm a with
  |some l=>Bool.rec none (gfill tm (splice l o zs) ps) (Bool.rec false (Nat.ble (o+k) (len zs)) (Nat.beq (len l) k))
  |none=>none):=rfl
 rw[h0,h];simp only[hk,ho]
theorem gfill4 {tm:Tr GD} {x0 x1 x2 x3:A} {u0 u1 u2 u3 z:U} (h0:gval tm x0=some (.one (.v u0))) (h1:gval tm x1=some (.one (.v u1))) (h2:gval tm x2=some (.one (.v u2))) (h3:gval tm x3=some (.one (.v u3)))
 (k0:glone (.v u0)=some [.v u0]) (k1:glone (.v u1)=some [.v u1]) (k2:glone (.v u2)=some [.v u2]) (k3:glone (.v u3)=some [.v u3]):gfill tm [.v z,.v z,.v z,.v z] [(0,1,x0),(1,1,x1),(2,1,x2),(3,1,x3)]=some (mapsV [u0,u1,u2,u3]):=by
 rw[gfill_cons (gcells_one h0 k0) rfl rfl,gfill_cons (gcells_one h1 k1) rfl rfl,gfill_cons (gcells_one h2 k2) rfl rfl,gfill_cons (gcells_one h3 k3) rfl rfl];rfl
theorem gfill1 {tm:Tr GD} {x:A} {u z:U} (h:gval tm x=some (.one (.v u))) (k:glone (.v u)=some [.v u]):gfill tm [.v z] [(0,1,x)]=some (mapsV [u]):=by
 rw[gfill_cons (gcells_one h k) rfl rfl];rfl
theorem mean28 {N:Nat} {l:List U} {s:Nat} {c:C} {u:U} {G:List GO} {P:Program} {O:Oracle2} {m:Nat} {hp:List GO} (hN:N≠0) (h57:O 57 [.one (.v (.fz 1 N l))] []=some (.one (.v (.flt s)),G)) (hq:cbin .quo (.flt s) (.flt (FloatKind.nearest .f64 (.ofNat N)))=some c) (hu:cU c=some u):∃H,gbody P O m false b28 [.one (.v (.fz 1 N l))] hp=some (.one (.v u),H):=by
 refine wBodyE (tm:=(gput (some p0) (.one (.v (.fz 1 N l))) .e)) rfl (wSeq (wBlk (ggo (sMv rfl rfl) (gnil (nNorm (wSeq (wSeq (wBlk (ggo (sMv rfl rfl) (ggo (sLenF rfl rfl) (ggo (sBin (c:=.bool false) rfl rfl rfl rfl rfl (eq0F hN) rfl) ?_)))))))))));refine gnil (nNorm (wCond (t:=false) rfl (wSkip (nNorm (wSeq (wBlk (ggo (sMv rfl rfl) (cCall (ds:=[.one (.v (.fz 1 N l))]) rfl (args1 (rfl)) (.one .nil) (h57) ?_))))))));intro hpx1 mx2;refine ggo (sMv rfl rfl) (ggo (sLenF rfl rfl) (ggo (sCvf rfl rfl) (ggo (sBin (c:=c) rfl rfl rfl rfl rfl hq hu) (ggo (sMv rfl rfl) (gnil (nNorm (wRet ?_)))))));exact⟨_,.inl rfl,_,gends_tmp rfl⟩
theorem mean32 {N:Nat} {l:List U} {s:Nat} {c:C} {u:U} {G:List GO} {P:Program} {O:Oracle2} {m:Nat} {hp:List GO} (h60:O 60 [.one (.v (.fz 1 N l))] []=some (.one (.v (.flt s)),G)) (hq:cbin .quo (.flt s) (.flt (FloatKind.nearest .f64 (.ofNat N)))=some c) (hu:cU c=some u):∃H,gbody P O m false b32 [.one (.v (.fz 1 N l))] hp=some (.one (.v u),H):=by
 refine wBodyE (tm:=(gput (some p0) (.one (.v (.fz 1 N l))) .e)) rfl (wSeq (wBlk (ggo (sMv rfl rfl) (gnil (nNorm (wSeq (wBlk (ggo (sMv rfl rfl) (cCall (ds:=[.one (.v (.fz 1 N l))]) rfl (args1 (rfl)) (.one .nil) (h60) ?_)))))))));intro hpx1 mx2;refine ggo (sMv rfl rfl) (ggo (sLenF rfl rfl) (ggo (sCvf rfl rfl) (ggo (sBin (c:=c) rfl rfl rfl rfl rfl hq hu) (ggo (sMv rfl rfl) (gnil (nNorm (wRet ?_)))))));exact⟨_,.inl rfl,_,gends_tmp rfl⟩
theorem end29 {N:Nat} {l:List U} {i0 s:Nat} {G G':List GO} {P:Program} {O:Oracle2} {m:Nat} {hp:List GO} (h59:O 59 [.one (.v (.int .i64 (1)))] []=some (.one (.v (.flt i0)),G)) (h58:O 58 [.one (.v (.fz 1 N l)),.one (.v (.int .i64 (-1))),.one (.v (.flt i0))] []=some (.one (.v (.flt s)),G')):∃H,gbody P O m false b29 [.one (.v (.fz 1 N l))] hp=some (.one (.v (.flt s)),H):=by
 refine wBodyE (tm:=(gput (some p0) (.one (.v (.fz 1 N l))) .e)) rfl (wSeq (wBlk (ggo (sMv rfl rfl) (gnil (nNorm (wSeq (wBlk (ggo (sMv rfl rfl) (cCall (ds:=[.one (.v (.int .i64 (1)))]) rfl (args1 (rfl)) (.one .nil) (h59) ?_)))))))));intro hpx1 mx2;refine cCall (ds:=[.one (.v (.fz 1 N l)),.one (.v (.int .i64 (-1))),.one (.v (.flt i0))]) rfl (args3 (rfl) (rfl) (rfl)) (.one (.one (.one .nil))) (h58) ?_;intro hpx3 mx4;refine ggo (sMv rfl rfl) (gnil (nNorm (wRet ?_)));exact⟨_,.inl rfl,_,gends_tmp rfl⟩
theorem end30 {N:Nat} {l:List U} {i0 s:Nat} {G G':List GO} {P:Program} {O:Oracle2} {m:Nat} {hp:List GO} (h59:O 59 [.one (.v (.int .i64 (-1)))] []=some (.one (.v (.flt i0)),G)) (h58:O 58 [.one (.v (.fz 1 N l)),.one (.v (.int .i64 (1))),.one (.v (.flt i0))] []=some (.one (.v (.flt s)),G')):∃H,gbody P O m false b30 [.one (.v (.fz 1 N l))] hp=some (.one (.v (.flt s)),H):=by
 refine wBodyE (tm:=(gput (some p0) (.one (.v (.fz 1 N l))) .e)) rfl (wSeq (wBlk (ggo (sMv rfl rfl) (gnil (nNorm (wSeq (wBlk (ggo (sMv rfl rfl) (cCall (ds:=[.one (.v (.int .i64 (-1)))]) rfl (args1 (rfl)) (.one .nil) (h59) ?_)))))))));intro hpx1 mx2;refine cCall (ds:=[.one (.v (.fz 1 N l)),.one (.v (.int .i64 (1))),.one (.v (.flt i0))]) rfl (args3 (rfl) (rfl) (rfl)) (.one (.one (.one .nil))) (h58) ?_;intro hpx3 mx4;refine ggo (sMv rfl rfl) (gnil (nNorm (wRet ?_)));exact⟨_,.inl rfl,_,gends_tmp rfl⟩
end Go.Proofs.YtiahijhpjloijaaGreat.V

