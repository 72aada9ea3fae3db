/- Parts of the proof, put together: Q9. -/
import Derived.Test.YtiahijhpjloijaaGreatM9
import Derived.Test.YtiahijhpjloijaaGreatM7
set_option linter.unusedVariables false
set_option linter.unusedSimpArgs false
namespace Go.Proofs.YtiahijhpjloijaaGreat.V
open Go
noncomputable def grv (s:GS) (r:Rv):Option GD:=
 match r with
 | .tmp p=>Tr.get p s.tm
 | .cell p k ag=>match Tr.get p s.tm with
   |some (.one (.loc i off))=>match gobj s.hp i with
    |some cs=>match take k (drop off cs)with|l=>Bool.rec none (gasD ag l) (Nat.beq (len l) k)
    |none=>none
   |_=>none
noncomputable def gpars (ps:List Pos):List GD→Tr GD→Option (Tr GD):=
 List.rec (fun ds tm=>List.rec (some tm) (fun _ _ _=>none) ds)
  (fun p _ ih ds tm=>List.rec none (fun d t _=>ih t (Tr.set p d tm)) ds) ps
noncomputable def gfz1 (g:G) (hp:List GO):Option (List GO×G):=
 match g with
 | .own i k n=>match frz 8 hp (.own i k n)with|some (hp,u)=>some (hp,.v u)|none=>none
 |g=>some (hp,g)
noncomputable def gfin (ds:List GD):List GO→Option (List GO×List GD):=
 List.rec (fun hp=>some (hp,[])) (fun d _ ih hp=>match d with
  | .ag l=>match frs (frz 8) l hp with
    |some (hp,us)=>match ih hp with|some (hp,ds)=>some (hp,.ag (mapsV us)::ds)|none=>none
    |none=>none
  | .one g=>match gfz1 g hp with
    |some (hp,g)=>match ih hp with|some (hp,ds)=>some (hp,.one g::ds)|none=>none
    |none=>none
  |d=>match ih hp with|some (hp,ds)=>some (hp,d::ds)|none=>none) ds
noncomputable def gends (kp:Bool) (f:Fn) (s:GS):Option (GD×List GO):=
 match each (grv s) f.rs with
 |some ds=>match(Bool.rec (gfin ds s.hp) (some (s.hp,ds)) kp:Option (List GO×List GD))with
  |some (hp,[d])=>some (d,hp)
  |some (hp,ds)=>match each gtoX ds with|some xs=>some (.tup xs,hp)|none=>none
  |none=>none
 |none=>none
noncomputable def gbody (P:Program) (O:Oracle2) (m:Nat) (kp:Bool) (b:Fn) (ds:List GD) (hp:List GO):Option (GD×List GO):=
 match gpars b.ps ds .e with
 |some tm=>match gev P O m b.k {tm:=tm,hp:=hp}with
  | .norm s=>gends kp b s
  | .ret s=>gends kp b s
  |_=>none
 |none=>none
noncomputable def gden (P:Program) (F:Nat→Option Fn) (X:Oracle2→Oracle2) (kp:Nat→Bool) (m n:Nat):Oracle2:=
 Nat.rec (fun _ _ _=>none) (fun _ O f ds hp=>match F f with|some b=>gbody P O m (kp f) b ds hp|none=>X O f ds hp) n
section
variable{P:Program} {O2:Oracle2} {O:Oracle}
theorem gpars_ok {E:En2} {hp:Tr Ob}:∀{ps:List Pos} {ds:List GD} {Ds:List D} {g g':Tr GD} {tm:Tr D},RT E hp g tm→Al (RD E hp) ds Ds→gpars ps ds g=some g'→∃tm',pars ps Ds tm=some tm'∧RT E hp g' tm'
 |[],_,_,g,g',tm,hT,.nil,h=>by
  have h:some g=some g':=h
  cases h
  exact⟨tm,rfl,hT⟩
 |[],_,_,g,g',tm,hT,.cons _ _,h=>by cases h
 |p::ps,_,_,g,g',tm,hT,.nil,h=>by cases h
 |p::ps,_,_,g,g',tm,hT,.cons (x:=d) (y:=D1) (l:=ds) (m:=Ds) h1 h2,h=>by
  have h:gpars ps ds (Tr.set p d g)=some g':=h;show∃tm',pars ps Ds (Tr.set p D1 tm)=some tm'∧RT E hp g' tm';exact gpars_ok (RT_set (q:=p) hT h1) h2 h
theorem grv_ok {E:En2} {g:GS} {s:St} (hT:RT E s.hp g.tm s.tm) (hH:RH E g.hp s.hp) {r:Rv} {d:GD} (h:grv g r=some d):∃d',rv s r=some d'∧RD E s.hp d d':=by
 cases r with
 |tmp p=>exact hT p d h
 |cell p k ag=>
  simp only[grv]at h
  split at h
  case h_2=>cases h
  rename_i i off hp
  split at h
  case h_2=>cases h
  rename_i cs hcs;rw[brec']at h
  split at h
  case isFalse=>cases h
  rename_i hb;obtain⟨d1,h1,h2⟩:=hT p _ hp
  cases d1 with
  |ag _=>exact h2.elim
  |tup _=>exact h2.elim
  |one c=>
   obtain⟨q,h3,rfl⟩:=h2;obtain⟨q',cs',h4,h5,h6⟩:=gobj_ok hH hcs;rw[h3]at h4;cases h4;rw[take_eq,drop_eq]at h hb;have hal:=(h6.drop off).take k;obtain⟨d',h7,h8⟩:=gasD_ok h hal;have hb':Nat.beq (len ((cs'.drop off).take k)) k=true:=by rw[len_eq,←hal.len,←len_eq];exact hb
   refine⟨d',?_,h8⟩;simp only[rv,h1,h5,take_eq,drop_eq,h7,hb']
theorem grvs_ok {E:En2} {g:GS} {s:St} (hT:RT E s.hp g.tm s.tm) (hH:RH E g.hp s.hp):∀{rs:List Rv} {ds:List GD},each (grv g) rs=some ds→∃Ds,each (rv s) rs=some Ds∧Al (RD E s.hp) ds Ds
 |[],ds,h=>by rw[each_nil]at h;cases h;exact⟨[],rfl,.nil⟩
 |r::rs,ds,h=>by
  rw[each_cons]at h
  split at h
  ·rename_i d hd
   split at h
   ·rename_i ds' hds
    cases h
    obtain⟨D1,h1,h2⟩:=grv_ok hT hH hd;obtain⟨Ds,h3,h4⟩:=grvs_ok hT hH hds;exact⟨D1::Ds,by rw[each_cons,h1,h3],.cons h2 h4⟩
   ·cases h
  ·cases h
theorem gtoXs_ok {E:En2} {hp:Tr Ob}:∀{ds:List GD} {Ds:List D} {xs:List GX},Al (RD E hp) ds Ds→each gtoX ds=some xs→∃Xs,each toX Ds=some Xs∧Al (RX E hp) xs Xs
 |_,_,xs,.nil,h=>by rw[each_nil]at h;cases h;exact⟨[],rfl,.nil⟩
 |_,_,xs,.cons (x:=d) (y:=D1) h1 h2,h=>by
  rw[each_cons]at h
  split at h
  ·rename_i x hx
   split at h
   ·rename_i xs' hxs
    cases h
    obtain⟨Xs,h3,h4⟩:=gtoXs_ok h2 hxs
    cases d with
    |one c=>cases D1 with
     |one c'=>cases hx;exact⟨.one c'::Xs,by rw[each_cons,h3];rfl,.cons h1 h4⟩
     |ag _=>exact h1.elim
     |tup _=>exact h1.elim
    |ag l=>cases D1 with
     |one _=>exact h1.elim
     |ag l'=>cases hx;exact⟨.ag l'::Xs,by rw[each_cons,h3];rfl,.cons h1 h4⟩
     |tup _=>exact h1.elim
    |tup _=>cases hx
   ·cases h
  ·cases h
theorem gfz1_ok {hp:Tr Ob} {E:En2} {l l':List GO} {g g':G} {c:C} (h:RH E l hp) (hf:gfz1 g l=some (l',g')) (hr:RG E hp g c):∃E',FrOk E E' l l' hp∧RG E' hp g' c:=by
 unfold gfz1 at hf
 split at hf
 ·split at hf
  ·rename_i hu
   cases hf
   exact frz_ok h hu hr
  ·cases hf
 ·cases hf
  exact⟨E,.refl h,hr⟩
theorem gfin_ok {hp:Tr Ob}:∀{ds:List GD} {E:En2} {l l':List GO} {ds':List GD},RH E l hp→gfin ds l=some (l',ds')→∀{Ds:List D},Al (RD E hp) ds Ds→
 ∃E',FrOk E E' l l' hp∧Al (RD E' hp) ds' Ds
 |[],E,l,l',ds',h,hf,Ds,ha=>by
  cases ha
  have hf:some (l,([]:List GD))=some (l',ds'):=hf
  cases hf
  exact⟨E,.refl h,.nil⟩
 | .ag m::t,E,l,l',ds',h,hf,Ds,ha=>by
   cases ha with
   |@cons _ D1 _ Ds1 h1 h2=>
    have hf:(match frs (frz 8) m l with
     |some (hp,us)=>match gfin t hp with|some (hp,ds)=>some (hp,GD.ag (mapsV us)::ds)|none=>none
     |none=>none)=some (l',ds'):=hf
    split at hf
    ·rename_i l1 us hu
     split at hf
     ·rename_i l2 ds2 hds
      cases hf
      cases D1 with
      |one _=>exact h1.elim
      |tup _=>exact h1.elim
      |ag cs=>
       obtain⟨E1,k1,k2⟩:=frs_ok (fun a b=>frz_ok a b) h hu h1;obtain⟨E2,k3,k4⟩:=gfin_ok k1.rh hds (h2.imp fun _ _=>RD_mono (k1.fra (fun _=>True)).more);refine⟨E2,k1.trans k3,.cons ?_ k4⟩;show Al (RG E2 hp) _ _;rw[mapsV_eq];exact Al_v (AlRU_mono (k3.fra (fun _=>True)).more.st k2)
     ·cases hf
    ·cases hf
 | .one g::t,E,l,l',ds',h,hf,Ds,ha=>by
   cases ha with
   |@cons _ D1 _ Ds1 h1 h2=>
    have hf:(match gfz1 g l with
     |some (hp,g)=>match gfin t hp with|some (hp,ds)=>some (hp,GD.one g::ds)|none=>none
     |none=>none)=some (l',ds'):=hf
    split at hf
    ·rename_i l1 g1 hg
     split at hf
     ·rename_i l2 ds2 hds
      cases hf
      cases D1 with
      |ag _=>exact h1.elim
      |tup _=>exact h1.elim
      |one c=>
       obtain⟨E1,k1,k2⟩:=gfz1_ok h hg h1;obtain⟨E2,k3,k4⟩:=gfin_ok k1.rh hds (h2.imp fun _ _=>RD_mono (k1.fra (fun _=>True)).more);exact⟨E2,k1.trans k3,.cons (RG_mono (k3.fra (fun _=>True)).more k2) k4⟩
     ·cases hf
    ·cases hf
 | .tup g::t,E,l,l',ds',h,hf,Ds,ha=>by
   cases ha with
   |@cons _ D1 _ Ds1 h1 h2=>
    have hf:(match gfin t l with|some (hp,ds)=>some (hp,GD.tup g::ds)|none=>none)=some (l',ds'):=hf
    split at hf
    ·rename_i l2 ds2 hds
     cases hf
     obtain⟨E2,k3,k4⟩:=gfin_ok h hds h2;exact⟨E2,k3,.cons (RD_mono (k3.fra (fun _=>True)).more h1) k4⟩
    ·cases hf
theorem gends_ok {E:En2} {g:GS} {s:St} (h:RS E g s) {kp:Bool} {b:Fn} {d:GD} {H':List GO} (he:gends kp b g=some (d,H')):∃D1 E',ends b s=some (D1,s.hp,s.nx)∧RD E' s.hp d D1∧RH E' H' s.hp∧∀new,Fra E E' s.hp s.hp new:=by
 unfold gends at he
 split at he
 case h_2=>cases he
 rename_i ds0 hd;obtain⟨Ds,h1,h2⟩:=grvs_ok h.tm h.hp hd;have key:∀{hp1:List GO} {ds1:List GD},(Bool.rec (gfin ds0 g.hp) (some (g.hp,ds0)) kp:Option (List GO×List GD))=some (hp1,ds1)→∃E',RH E' hp1 s.hp∧(∀new,Fra E E' s.hp s.hp new)∧Al (RD E' s.hp) ds1 Ds:=by
  intro hp1 ds1 hk
  cases kp with
  |true=>cases hk;exact⟨E,h.hp,fun _=>.refl _ _ _,h2⟩
  |false=>
   obtain⟨E',k1,k2⟩:=gfin_ok h.hp hk h2;exact⟨E',k1.rh,k1.fra,k2⟩
 split at he
 ·rename_i hp1 d1 hk
  cases he
  obtain⟨E',k1,k2,k3⟩:=key hk
  cases k3 with
  |cons h3 h4=>
   cases h4
   exact⟨_,E',by unfold ends;rw[h1],h3,k1,k2⟩
 ·rename_i hp1 ds1 hne hk
  split at he
  ·rename_i xs hxs
   cases he
   obtain⟨E',k1,k2,k3⟩:=key hk;obtain⟨Xs,h3,h4⟩:=gtoXs_ok k3 hxs;refine⟨.tup Xs,E',?_,h4,k1,k2⟩;unfold ends;rw[h1]
   match Ds,k3 with
   |[],_=>simp only[h3]
   |[d0],k3=>cases k3 with|cons _ h5=>cases h5;exact absurd rfl (hne _)
   |d0::d1::ds,_=>simp only[h3]
  ·cases he
 ·cases he
theorem gbody_ok (hG:Good2 O2 O) {m:Nat} {kp:Bool} {b:Fn} (hk:okKs b.k=true) {ds:List GD} {H H':List GO} {d:GD} (h:gbody P O2 m kp b ds H=some (d,H')) {E:En2} {hp:Tr Ob} {nx:Pos} {Ds:List D} (hH:RH E H hp) (ha:Al (RD E hp) ds Ds) (hl:Low hp nx):
 ∃D hp' nx' E',body P O m b Ds hp nx=some (D,hp',nx')∧RD E' hp' d D∧RH E' H' hp'∧Fra E E' hp hp' (fun p=>nx.num≤p.num)∧Low hp' nx'∧nx.num≤nx'.num:=by
 unfold gbody at h
 split at h
 case h_2=>cases h
 rename_i tm htm;obtain⟨tm',h1,h2⟩:=gpars_ok (tm:=.e) (fun p d e=>by rw[Tr.get_e]at e;cases e) ha htm;have hrs:RS E ⟨tm,H⟩ ⟨tm',hp,nx⟩:=⟨h2,hH,hl⟩;have hev:=gev_ok (P:=P) hG m b.k hk E _ _ hrs;have fin:∀{g:GS} {s:St},NextOk E ⟨tm',hp,nx⟩ g s→gends kp b g=some (d,H')→∃D hp' nx' E',ends b s=some (D,hp',nx')∧RD E' hp' d D∧RH E' H' hp'∧Fra E E' hp hp' (fun p=>nx.num≤p.num)∧Low hp' nx'∧nx.num≤nx'.num:=by
  rintro g s ⟨E',k1,k2,k3⟩ he
  obtain⟨D1,E2,m1,m2,m3,m4⟩:=gends_ok k1 he;exact⟨D1,s.hp,s.nx,E2,m1,m2,m3,k2.trans (m4 _),k1.low,k3⟩
 unfold body;rw[h1];simp only[]
 split at h
 ·rename_i g hg
  rw[hg]at hev
  cases hs:ev P O m b.k {tm:=tm',hp:=hp,nx:=nx}with
  |norm s=>rw[hs]at hev;exact fin hev h
  |exit j s=>rw[hs]at hev;exact hev.elim
  |ret s=>rw[hs]at hev;exact hev.elim
  |no=>rw[hs]at hev;exact hev.elim
 ·rename_i g hg
  rw[hg]at hev
  cases hs:ev P O m b.k {tm:=tm',hp:=hp,nx:=nx}with
  |norm s=>rw[hs]at hev;exact hev.elim
  |exit j s=>rw[hs]at hev;exact hev.elim
  |ret s=>rw[hs]at hev;exact fin hev h
  |no=>rw[hs]at hev;exact hev.elim
 ·cases h
theorem gden_good {F:Nat→Option Fn} (hF:∀f b,F f=some b→okKs b.k=true) {X2:Oracle2→Oracle2} {X:Oracle→Oracle} (hX:∀O2 O,Good2 O2 O→Good2 (X2 O2) (X O)) {kp:Nat→Bool} (m:Nat):∀n,Good2 (gden P F X2 kp m n) (den P F X m n)
 |0=>fun f ds H d H' h=>by cases h
 |n+1=>fun f ds H d H' h E hp nx Ds hH ha hl=>by
  have h:(match F f with|some b=>gbody P (gden P F X2 kp m n) m (kp f) b ds H|none=>X2 (gden P F X2 kp m n) f ds H)=some (d,H'):=h;rw[den_succ]
  split at h
  ·rename_i b hb
   rw[hb];exact gbody_ok (gden_good hF hX m n) (hF f b hb) h hH ha hl
  ·rename_i hb
   rw[hb];exact hX _ _ (gden_good hF hX m n) f ds H d H' h E hp nx Ds hH ha hl
end
theorem okT:all (fun f=>match fns f with|none=>true|some b=>okKs b.k) (List.range' 0 176)=true:=by kernel_rfl
theorem okFns (f:Nat) (b:Fn) (h:fns f=some b):okKs b.k=true:=by
 by_cases hf:f<176
 ·have:=all_true okT f (by rw[List.mem_range'_1];omega)
  rw[h]at this;exact this
 ·rw[fns_top f (by omega)]at h;cases h
theorem okF1 (f:Nat) (b:Fn) (h:F1 f=some b):okKs b.k=true:=by
 unfold F1 at h;rw[brec']at h
 split at h
 ·cases h
 ·exact okFns f b h
noncomputable def gx20 (ds:List GD) (hp:List GO):Option (GD×List GO):=match ds with|[.one (.v (.int .u64 (.ofNat n)))]=>some (.one (.v (.flt n)),hp)|_=>none
noncomputable def gx89 (ds:List GD) (hp:List GO):Option (GD×List GO):=match ds with|[.one (.v (.flt b))]=>some (.one (.v (.int .u64 (.ofNat b))),hp)|_=>none
noncomputable def gx52 (O:Oracle2) (ds:List GD) (hp:List GO):Option (GD×List GO):=match ds with|[.one (.v .nan)]=>some (.one (.v (.int .u64 18446744073709551615)),hp)|_=>gbody Tryz.prog O 100000 false b52 ds hp
noncomputable def GX1:Oracle2→Oracle2:=fun O f ds hp=>
 Bool.rec (Bool.rec (Bool.rec none (gx52 O ds hp) (Nat.beq f 52)) (gx89 ds hp) (Nat.beq f 89)) (gx20 ds hp) (Nat.beq f 20)
theorem al_one {E:En2} {hp:Tr Ob} {g:G} {Ds:List D} (h:Al (RD E hp) [.one g] Ds):∃c,Ds=[.one c]∧RG E hp g c:=by
 cases h with
 |@cons _ D1 _ _ h1 h2=>
  cases h2
  cases D1 with
  |one c=>exact⟨c,rfl,h1⟩
  |ag _=>exact h1.elim
  |tup _=>exact h1.elim
theorem GX1_good (O2:Oracle2) (O:Oracle) (hG:Good2 O2 O):Good2 (GX1 O2) (X1 O):=by
 intro f ds H d H' h E hp nx Ds hH ha hl;unfold GX1 at h;unfold X1;rw[brec']at h⊢
 split at h
 ·rename_i hf
  rw[if_pos hf];unfold gx20 at h
  split at h
  ·rename_i n
   cases h
   obtain⟨c,rfl,h1⟩:=al_one ha;have h1:RU E.fz hp _ c:=h1;rw[RU]at h1;subst h1;exact⟨.one (.flt n),hp,nx,E,rfl,(by show RU _ _ _ _;rw[RU]),hH,.refl _ _ _,hl,Nat.le_refl _⟩
  ·cases h
 ·rename_i hf
  rw[if_neg hf];rw[brec']at h⊢
  split at h
  ·rename_i hf2
   rw[if_pos hf2];unfold gx89 at h
   split at h
   ·rename_i b
    cases h
    obtain⟨c,rfl,h1⟩:=al_one ha;have h1:RU E.fz hp _ c:=h1;rw[RU]at h1;subst h1;exact⟨.one (.int .u64 (.ofNat b)),hp,nx,E,rfl,(by show RU _ _ _ _;rw[RU]),hH,.refl _ _ _,hl,Nat.le_refl _⟩
   ·cases h
  ·rename_i hf2
   rw[if_neg hf2];rw[brec']at h⊢
   split at h
   ·rename_i hf3
    rw[if_pos hf3];unfold gx52 at h
    split at h
    ·cases h
     obtain⟨c,rfl,h1⟩:=al_one ha;have h1:RU E.fz hp _ c:=h1;rw[RU]at h1;subst h1;exact⟨.one (.int .u64 18446744073709551615),hp,nx,E,rfl,(by show RU _ _ _ _;rw[RU]),hH,.refl _ _ _,hl,Nat.le_refl _⟩
    ·rename_i hno
     obtain⟨D1,hp',nx',E',b1,b2⟩:=gbody_ok hG (okFns 52 b52 rfl) h hH ha hl;refine⟨D1,hp',nx',E',?_,b2⟩;unfold x52
     split
     ·exfalso
      cases ha with
      |@cons g0 _ _ _ h1 h2=>
       cases h2
       cases g0 with
       |ag _=>exact h1.elim
       |tup _=>exact h1.elim
       |one g=>
        cases g with
        |own i k n=>obtain⟨_,_,h3⟩:=h1;cases h3
        |loc i o=>obtain⟨_,_,h3⟩:=h1;cases h3
        |floc l o=>rcases h1 with⟨_,_,_,_,h3,_⟩|⟨_,_,_,h3,_⟩<;>cases h3
        |v u=>
         have h1:RU E.fz hp u .nan:=h1
         cases u with
         |nan=>exact hno rfl
         |fz k n l=>rw[RU]at h1;rcases h1 with⟨_,_,h|h⟩|⟨_,_,_,h,_⟩|⟨_,_,_,_,h,_⟩|⟨_,_,_,h,_⟩<;>cases h
         |_=>rw[RU]at h1;cases h1
     ·exact b1
   ·cases h
noncomputable def kps (f:Nat):Bool:=any (fun g=>Nat.beq f g) [8,43,68,73,75,77,81,82,83,87,104,105,121,149,151]
def FUEL:Nat:=4611686018427387904
noncomputable def DD (n:Nat):Oracle:=den Tryz.prog F1 X1 FUEL n
noncomputable def GDD (n:Nat):Oracle2:=gden Tryz.prog F1 GX1 kps FUEL n
theorem DD_good (n:Nat):Good Tryz.prog (DD n):=(den_good mixed F1_fits X1_good FUEL n).1
theorem GDD_good (n:Nat):Good2 (GDD n) (DD n):=gden_good okF1 GX1_good FUEL n
end Go.Proofs.YtiahijhpjloijaaGreat.V

