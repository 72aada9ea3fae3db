/- Parts of the proof, put together: R11, R12, R13, R14, R15, R16. -/
import Derived.Test.YtiahijhpjloijaaGreatM12
set_option linter.unusedVariables false
set_option linter.unusedSimpArgs false
namespace Go.Proofs.YtiahijhpjloijaaGreat.V
open Go
structure COut where
 nv:Nat
 fa:List Lin
 d:AD
 pc:List AC
 ob:List (Nat×AO)
structure Con where
 lev:Nat
 nv:Nat
 gh:Bool
 ps:List AD
 ptr:Option (Nat×List AC)
 fa:List Lin
 outs:List COut
 me:List (Nat×Lin×List AC)
def PreP (X:Cx) (e:AEnv) (ptr:Option (Nat×List AC)) (H:List GO):Prop:=
 match ptr with
 |none=>H=[]
 |some (e0,cs)=>∃gs,H=[.ob e0 false gs]∧Al (gaC X e) cs gs
def withP (ptr:Option (Nat×List AC)) (ds:List GD):List GD:=match ptr with|none=>ds|some _=>.one (.loc 0 0)::ds
structure PreH (X:Cx) (e:AEnv) (con:Con) (ds:List GD) (H:List GO):Prop where
 fa:∀x∈con.fa,0≤lv e.ρ x
 ps:Al (gaD X e) con.ps ds
 ptr:PreP X e con.ptr H
 me:∀z∈con.me,gaM X e z
structure PostH (X:Cx) (e:AEnv) (o:COut) (con:Con) (d:GD) (H':List GO):Prop where
 fa:∀x∈o.fa,0≤lv e.ρ x
 d:gaD X e o.d d
 ptr:∀e0 cs,con.ptr=some (e0,cs)→∃gs,H'[0]?=some (.ob e0 false gs)∧Al (gaC X e) o.pc gs
 ob:∀z∈o.ob,con.nv≤z.1∧z.1<o.nv∧(e.on z.1=true→(con.ptr=none∨e.ν z.1≠0)∧∃x,H'[e.ν z.1]?=some x∧gaO X e z.2 x)
 inj:∀y∈o.ob,∀z∈o.ob,e.on y.1=true→e.on z.1=true→e.ν y.1=e.ν z.1→y.1=z.1
def ConOk (X:Cx) (O2:Oracle2) (f:Nat) (con:Con):Prop:=∀e ds H,(∀e',Agr con.nv e e'→PreH X e' con ds H)→
 ∃d H',O2 f (withP con.ptr ds) H=some (d,H')∧∃o∈con.outs,con.nv≤o.nv∧∃e1,Agr con.nv e e1∧∀e',Agr o.nv e1 e'→PostH X e' o con d H'
structure Bd where
 vb:List (Nat×Lin)
 lb:List (Nat×Nat)
 nb:List (Nat×Option Nat)
noncomputable def bL (n0:Nat) (p a:Lin) (B:Bd):Bd:=
 match p with
 |(0,[(v,1)])=>Bool.rec B (match findO v B.vb with|none=>{B with vb:=(v,a)::B.vb}|some _=>B) (Nat.ble n0 v)
 |_=>B
noncomputable def bLs (n0:Nat) (p:List Lin):List Lin→Bd→Bd:=
 List.rec (fun _ B=>B) (fun x _ ih a B=>List.rec B (fun y t _=>ih t (bL n0 x y B)) a) p
noncomputable def bN (n0 nm m:Nat) (B:Bd):Bd:=Bool.rec B (match findO nm B.lb with|none=>{B with lb:=(nm,m)::B.lb}|some _=>B) (Nat.ble n0 nm)
noncomputable def bO (n0 nm:Nat) (m:Option Nat) (B:Bd):Bd:=Bool.rec B (match findO nm B.nb with|none=>{B with nb:=(nm,m)::B.nb}|some _=>B) (Nat.ble n0 nm)
noncomputable def bC (n0:Nat) (p a:AC) (B:Bd):Bd:=
 match p,a with
 | .int _ x,.int _ y=>bL n0 x y B
 | .bool (.ge x),.bool .tt=>bL n0 x (lK 0) B
 | .bool (.ge x),.bool .ff=>bL n0 x (lK (-1)) B
 | .bool (.ge x),.bool (.ge y)=>bL n0 x y B
 | .str x,.str y=>bL n0 x y B
 | .sl _ ps n nm,.sl _ ps' n' nm'=>bN n0 nm nm' (bL n0 n n' (bLs n0 ps ps' B))
 | .sl _ ps n nm,.nil=>bN n0 nm 0 (bL n0 n (lK 0) (bLs n0 ps (maps (fun _=>lK 0) ps) B))
 | .own nm _ n,.own nm' _ n'=>bO n0 nm (some nm') (bL n0 n n' B)
 | .own nm _ n,.nil=>bO n0 nm none (bL n0 n (lK 0) B)
 | .loc nm _,.loc nm' _=>bO n0 nm (some nm') B
 |_,_=>B
noncomputable def bCs (n0:Nat) (p:List AC):List AC→Bd→Bd:=
 List.rec (fun _ B=>B) (fun x _ ih a B=>List.rec B (fun y t _=>ih t (bC n0 x y B)) a) p
noncomputable def bD (n0:Nat) (p a:AD) (B:Bd):Bd:=match p,a with| .one c,.one d=>bC n0 c d B| .ag l,.ag m=>bCs n0 l m B|_,_=>B
noncomputable def bDs (n0:Nat) (p:List AD):List AD→Bd→Bd:=
 List.rec (fun _ B=>B) (fun x _ ih a B=>List.rec B (fun y t _=>ih t (bD n0 x y B)) a) p
noncomputable def bA (n0:Nat) (p a:AO) (B:Bd):Bd:=
 match p,a with
 | .X _ cs,.X _ cs'=>bCs n0 cs cs' B
 | .M _ _ ps n,.M _ _ ps' n'=>bL n0 n n' (bLs n0 ps ps' B)
 | .F _ _ ps n nm,.F _ _ ps' n' nm'=>bN n0 nm nm' (bL n0 n n' (bLs n0 ps ps' B))
 |_,_=>B
noncomputable def bAs (n0:Nat) (ob:List (Nat×AO)) (p:List (Nat×AO)):Bd→Bd:=
 List.rec (fun B=>B) (fun z _ ih B=>match(Bool.rec (findO z.1 B.nb) (some (some z.1)) (Nat.ble (Nat.succ z.1) n0):Option (Option Nat))with
  |some (some m)=>match findO m ob with|some a=>ih (bA n0 z.2 a B)|none=>ih B
  |_=>ih B) p
noncomputable def mpOf (n0 nP:Nat) (B:Bd):Mp:=
 ⟨fun v=>Bool.rec (Bool.rec none (findO v B.vb) (Nat.ble (Nat.succ v) nP)) (some (lV v)) (Nat.ble (Nat.succ v) n0),
  fun v=>Bool.rec (Bool.rec none (findO v B.lb) (Nat.ble (Nat.succ v) nP)) (some v) (Nat.ble (Nat.succ v) n0),
  fun v=>Bool.rec (Bool.rec none (findO v B.nb) (Nat.ble (Nat.succ v) nP)) (some (some v)) (Nat.ble (Nat.succ v) n0)⟩
noncomputable def penv (n0:Nat) (B:Bd) (e:AEnv):AEnv:=
 ⟨fun v=>if v<n0 then e.ρ v else match findO v B.vb with|some x=>lv e.ρ x|none=>0,
  fun v=>if v<n0 then e.ν v else match findO v B.nb with|some (some m)=>e.ν m|_=>0,
  fun v=>if v<n0 then e.on v else match findO v B.nb with|some (some m)=>e.on m|_=>false,
  fun v=>if v<n0 then e.L v else match findO v B.lb with|some m=>e.L m|none=>[]⟩
theorem agr_penv (n0:Nat) (B:Bd) (e:AEnv):Agr n0 e (penv n0 B e):=fun v hv=>⟨if_pos hv,if_pos hv,if_pos hv,if_pos hv⟩
theorem mpOf_ok {n0 nP:Nat} (h0:n0≤nP) (B:Bd) (e:AEnv) {eP:AEnv} (h:Agr nP (penv n0 B e) eP):MpOk e eP (mpOf n0 nP B):=by
 refine⟨fun v q hq=>?_,fun v m hm=>?_,fun v m hm=>?_,fun v hm=>?_⟩
 ·have hq:(Bool.rec (Bool.rec none (findO v B.vb) (Nat.ble (Nat.succ v) nP)) (some (lV v)) (Nat.ble (Nat.succ v) n0):Option Lin)=some q:=hq
  rw[brec']at hq
  split at hq
  ·rename_i hv
   rw[ble_iff]at hv
   cases hq
   rw[lv_V,(h v (by omega)).1];exact(if_pos (show v<n0 from hv)).symm
  ·rename_i hv
   rw[ble_iff]at hv;rw[brec']at hq
   split at hq
   ·rename_i hp
    rw[ble_iff]at hp;rw[(h v hp).1];show lv e.ρ q=if v<n0 then e.ρ v else match findO v B.vb with|some x=>lv e.ρ x|none=>0
    rw[if_neg (by omega),hq]
   ·cases hq
 ·have hm:(Bool.rec (Bool.rec none (findO v B.lb) (Nat.ble (Nat.succ v) nP)) (some v) (Nat.ble (Nat.succ v) n0):Option Nat)=some m:=hm
  rw[brec']at hm
  split at hm
  ·rename_i hv
   rw[ble_iff]at hv
   cases hm
   rw[(h v (by omega)).2.2.2];exact if_pos (show v<n0 from hv)
  ·rename_i hv
   rw[ble_iff]at hv;rw[brec']at hm
   split at hm
   ·rename_i hp
    rw[ble_iff]at hp;rw[(h v hp).2.2.2];show(if v<n0 then e.L v else match findO v B.lb with|some m=>e.L m|none=>[])=e.L m;rw[if_neg (by omega),hm]
   ·cases hm
 ·have hm:(Bool.rec (Bool.rec none (findO v B.nb) (Nat.ble (Nat.succ v) nP)) (some (some v)) (Nat.ble (Nat.succ v) n0):Option (Option Nat))=some (some m):=hm
  rw[brec']at hm
  split at hm
  ·rename_i hv
   rw[ble_iff]at hv
   cases hm
   obtain⟨_,h2,h3,_⟩:=h v (by omega);rw[h2,h3];exact⟨if_pos (show v<n0 from hv),if_pos (show v<n0 from hv)⟩
  ·rename_i hv
   rw[ble_iff]at hv;rw[brec']at hm
   split at hm
   ·rename_i hp
    rw[ble_iff]at hp;obtain⟨_,h2,h3,_⟩:=h v hp;rw[h2,h3];constructor
    ·show(if v<n0 then e.on v else match findO v B.nb with|some (some m)=>e.on m|_=>false)=e.on m
     rw[if_neg (by omega),hm]
    ·show(if v<n0 then e.ν v else match findO v B.nb with|some (some m)=>e.ν m|_=>0)=e.ν m
     rw[if_neg (by omega),hm]
   ·cases hm
 ·have hm:(Bool.rec (Bool.rec none (findO v B.nb) (Nat.ble (Nat.succ v) nP)) (some (some v)) (Nat.ble (Nat.succ v) n0):Option (Option Nat))=some none:=hm
  rw[brec']at hm
  split at hm
  ·cases hm
  ·rename_i hv
   rw[ble_iff]at hv;rw[brec']at hm
   split at hm
   ·rename_i hp
    rw[ble_iff]at hp;rw[(h v hp).2.2.1];show(if v<n0 then e.on v else match findO v B.nb with|some (some m)=>e.on m|_=>false)=false;rw[if_neg (by omega),hm]
   ·cases hm
noncomputable def agpure (X:Cx) (ds:List AD):AS→Scr→Option (List AD×AS×Scr):=
 List.rec (fun σ s=>some ([],σ,s)) (fun d _ ih σ s=>match d with
  | .one c=>match afr X 7 σ c s with
    |some (c,σ,s)=>match ih σ s with|some (ds,σ,s)=>some (.one c::ds,σ,s)|none=>none
    |none=>none
  | .ag l=>match afrs (afr X 7) l σ s with
    |some (l,σ,s)=>match ih σ s with|some (ds,σ,s)=>some (.ag l::ds,σ,s)|none=>none
    |none=>none
  |_=>none) ds
noncomputable def nb1 (c:AC) (σ:AS) (s:Scr):Option (AC×AS×Scr):=
 match c with
 | .bool (.ge x)=>match s with
   | .n 0::s=>some (.bool (.ge x),σ,s)
   | .n 1::s=>match fresh (fun v=>[ladd v (lK 1),lopp v]) σ with|(v,σ')=>some (.bool (.ge v),σ',s)
   |_=>none
 | .bool (.eq x)=>match s with
   | .n 0::s=>some (.bool (.eq x),σ,s)
   | .n 1::s=>match fresh (fun v=>[ladd v (lK 1),lopp v]) σ with|(v,σ')=>some (.bool (.ge v),σ',s)
   |_=>none
 | .bool (.ne x)=>match s with
   | .n 0::s=>some (.bool (.ne x),σ,s)
   | .n 1::s=>match fresh (fun v=>[ladd v (lK 1),lopp v]) σ with|(v,σ')=>some (.bool (.ge v),σ',s)
   |_=>none
 |c=>some (c,σ,s)
noncomputable def nbs (cs:List AC):AS→Scr→Option (List AC×AS×Scr):=
 List.rec (fun σ s=>some ([],σ,s)) (fun c _ ih σ s=>match nb1 c σ s with
  |some (c,σ,s)=>match ih σ s with|some (cs,σ,s)=>some (c::cs,σ,s)|none=>none
  |none=>none) cs
noncomputable def nbD (d:AD) (σ:AS) (s:Scr):Option (AD×AS×Scr):=
 match d with
 | .one c=>match nb1 c σ s with|some (c,σ,s)=>some (.one c,σ,s)|none=>none
 | .ag l=>match nbs l σ s with|some (l,σ,s)=>some (.ag l,σ,s)|none=>none
 |d=>some (d,σ,s)
noncomputable def nbDs (ds:List AD):AS→Scr→Option (List AD×AS×Scr):=
 List.rec (fun σ s=>some ([],σ,s)) (fun d _ ih σ s=>match nbD d σ s with
  |some (d,σ,s)=>match ih σ s with|some (ds,σ,s)=>some (d::ds,σ,s)|none=>none
  |none=>none) ds
section
variable{X:Cx}
theorem gpure_one {g:G} {t:List GD} {hp:List GO}:gpure (.one g::t) hp=match frz 8 hp g with
 |some (hp,u)=>match gpure t hp with|some (hp,ds)=>some (hp,.one (.v u)::ds)|none=>none
 |none=>none:=rfl
theorem gpure_ag {l:List G} {t:List GD} {hp:List GO}:gpure (.ag l::t) hp=match frs (frz 8) l hp with
 |some (hp,us)=>match gpure t hp with|some (hp,ds)=>some (hp,.ag (mapsV us)::ds)|none=>none
 |none=>none:=rfl
theorem agpure_ok:∀{ads ads':List AD} {e:AEnv} {σ σ':AS} {g:GS} {ds:List GD} {s s':Scr},W X e σ g→agpure X ads σ s=some (ads',σ',s')→(∀e',Agr σ.nv e e'→Al (gaD X e') ads ds)→
 ∃hp' ds',gpure ds g.hp=some (hp',ds')∧σ.nv≤σ'.nv∧σ'.ft=σ.ft∧∃e1,Agr σ.nv e e1∧∀e',Agr σ'.nv e1 e'→Holds X e' σ' ⟨g.tm,hp'⟩∧Al (gaD X e') ads' ds'
 |[],ads',e,σ,σ',g,ds,s,s',hW,h,hd=>by
  have h:some (([]:List AD),σ,s)=some (ads',σ',s'):=h
  cases h
  cases hd e (.refl _ _)
  exact⟨g.hp,[],rfl,Nat.le_refl _,rfl,e,.refl _ _,fun e' he=>⟨hW e' he,.nil⟩⟩
 | .one c::ads,ads',e,σ,σ',g,ds,s,s',hW,h,hd=>by
   have h:(match afr X 7 σ c s with
    |some (c,σ,s)=>match agpure X ads σ s with|some (ds,σ,s)=>some (AD.one c::ds,σ,s)|none=>none
    |none=>none)=some (ads',σ',s'):=h
   split at h
   case h_2=>cases h
   rename_i c1 σ1 s1 h1
   split at h
   case h_2=>cases h
   rename_i ads2 σ2 s2 h2
   cases h
   cases ds with
   |nil=>cases hd e (.refl _ _)
   |cons d ds=>
    have hd0:∀e',Agr σ.nv e e'→gaD X e' (.one c) d∧Al (gaD X e') ads ds:=fun e' he=>by
     cases hd e' he;exact⟨by assumption,by assumption⟩
    cases d with
    |ag _=>exact(hd0 e (.refl _ _)).1.elim
    |tup _=>exact(hd0 e (.refl _ _)).1.elim
    |one x=>
     obtain⟨hp1,u,f1,f2,f3,e1,f4,f5⟩:=afr_ok (n:=6) hW h1 (x:=x) fun e' he=>(hd0 e' he).1
     obtain⟨hp2,ds2,k1,k2,k3,e2,k4,k5⟩:=agpure_ok (g:=⟨g.tm,hp1⟩) (e:=e1) (ds:=ds) (fun e' he=>(f5 e' he).1) h2 fun e' he=>(hd0 e' (f4.trans (he.mono f2))).2
     refine⟨hp2,.one (.v u)::ds2,?_,Nat.le_trans f2 k2,k3.trans f3,e2,f4.trans (k4.mono f2),fun e' he=>⟨(k5 e' he).1,.cons ?_ (k5 e' he).2⟩⟩
     ·rw[gpure_one,f1]
      simp only[k1]
     ·exact(f5 e' (k4.trans (he.mono k2))).2
 | .ag l::ads,ads',e,σ,σ',g,ds,s,s',hW,h,hd=>by
   have h:(match afrs (afr X 7) l σ s with
    |some (c,σ,s)=>match agpure X ads σ s with|some (ds,σ,s)=>some (AD.ag c::ds,σ,s)|none=>none
    |none=>none)=some (ads',σ',s'):=h
   split at h
   case h_2=>cases h
   rename_i c1 σ1 s1 h1
   split at h
   case h_2=>cases h
   rename_i ads2 σ2 s2 h2
   cases h
   cases ds with
   |nil=>cases hd e (.refl _ _)
   |cons d ds=>
    have hd0:∀e',Agr σ.nv e e'→gaD X e' (.ag l) d∧Al (gaD X e') ads ds:=fun e' he=>by
     cases hd e' he;exact⟨by assumption,by assumption⟩
    cases d with
    |one _=>exact(hd0 e (.refl _ _)).1.elim
    |tup _=>exact(hd0 e (.refl _ _)).1.elim
    |ag xs=>
     obtain⟨hp1,us,f1,⟨f2,f3,e1,f4,f5⟩,_⟩:=afrs_ok (fun a b c=>afr_ok (n:=6) a b c) hW h1 (xs:=xs) fun e' he=>(hd0 e' he).1
     obtain⟨hp2,ds2,k1,k2,k3,e2,k4,k5⟩:=agpure_ok (g:=⟨g.tm,hp1⟩) (e:=e1) (ds:=ds) (fun e' he=>(f5 e' he).1) h2 fun e' he=>(hd0 e' (f4.trans (he.mono f2))).2
     refine⟨hp2,.ag (mapsV us)::ds2,?_,Nat.le_trans f2 k2,k3.trans f3,e2,f4.trans (k4.mono f2),fun e' he=>⟨(k5 e' he).1,.cons ?_ (k5 e' he).2⟩⟩
     ·rw[gpure_ag,f1]
      simp only[k1]
     ·show Al (gaC X e') _ (mapsV us)
      rw[mapsV_eq];exact(f5 e' (k4.trans (he.mono k2))).2
 | .tup l::ads,ads',e,σ,σ',g,ds,s,s',hW,h,hd=>by cases h
 | .top::ads,ads',e,σ,σ',g,ds,s,s',hW,h,hd=>by cases h
theorem nb1_ok {e:AEnv} {σ σ':AS} {g:GS} {c c':AC} {x:G} {s s':Scr} (hW:W X e σ g) (h:nb1 c σ s=some (c',σ',s')) (hx:∀e',Agr σ.nv e e'→gaC X e' c x):
 σ.nv≤σ'.nv∧σ'.tm=σ.tm∧σ'.ob=σ.ob∧σ'.ft=σ.ft∧∃e1,Agr σ.nv e e1∧∀e',Agr σ'.nv e1 e'→Holds X e' σ' g∧gaC X e' c' x:=by
 have fr:∀(b:BE),c=.bool b→(.bool (.ge (fresh (fun v=>[ladd v (lK 1),lopp v]) σ).1),(fresh (fun v=>[ladd v (lK 1),lopp v]) σ).2)=(c',σ')→
  σ.nv≤σ'.nv∧σ'.tm=σ.tm∧σ'.ob=σ.ob∧σ'.ft=σ.ft∧∃e1,Agr σ.nv e e1∧∀e',Agr σ'.nv e1 e'→Holds X e' σ' g∧gaC X e' c' x:=by
  rintro b rfl hh
  cases hh
  have hx0:x=.v (.bool (bv e.ρ b)):=hx e (.refl _ _);subst hx0;obtain⟨e1,h1,h2⟩:=fresh_ok hW (mk:=fun v=>[ladd v (lK 1),lopp v]) (c:=if bv e.ρ b=true then 0 else -1) (fun e' he hv z hz=>by
   simp only[List.mem_cons,List.mem_nil_iff,or_false]at hz;rcases hz with rfl|rfl
   ·rw[lv_add,lv_V,lv_K,hv];split<;>omega
   ·rw[lv_opp,lv_V,hv];split<;>omega)
  refine⟨by rw[fresh_nv];omega,facts_tm _ _,facts_ob _ _,facts_ft _ _,e1,h1,fun e' he=>?_⟩;rw[fresh_nv]at he;obtain⟨k1,k2,k3⟩:=h2 e' he;refine⟨k1,?_⟩;show G.v (.bool (bv e.ρ b))=.v (.bool (decide (0≤lv e'.ρ (fresh (fun v=>[ladd v (lK 1),lopp v]) σ).1)));rw[k2]
  cases bv e.ρ b<;>rfl
 have idn:c'=c→σ'=σ→σ.nv≤σ'.nv∧σ'.tm=σ.tm∧σ'.ob=σ.ob∧σ'.ft=σ.ft∧∃e1,Agr σ.nv e e1∧∀e',Agr σ'.nv e1 e'→Holds X e' σ' g∧gaC X e' c' x:=by
  rintro rfl rfl
  exact⟨Nat.le_refl _,rfl,rfl,rfl,e,.refl _ _,fun e' he=>⟨hW e' he,hx e' he⟩⟩
 unfold nb1 at h
 split at h
 ·split at h
  ·cases h;exact idn rfl rfl
  ·injection h with h;injection h with h1 h2;injection h2 with h2 _
   exact fr _ rfl (by rw[←h1,←h2];rfl)
  ·cases h
 ·split at h
  ·cases h;exact idn rfl rfl
  ·injection h with h;injection h with h1 h2;injection h2 with h2 _
   exact fr _ rfl (by rw[←h1,←h2];rfl)
  ·cases h
 ·split at h
  ·cases h;exact idn rfl rfl
  ·injection h with h;injection h with h1 h2;injection h2 with h2 _
   exact fr _ rfl (by rw[←h1,←h2];rfl)
  ·cases h
 ·cases h;exact idn rfl rfl
theorem nbs_ok:∀{cs cs':List AC} {e:AEnv} {σ σ':AS} {g:GS} {xs:List G} {s s':Scr},W X e σ g→nbs cs σ s=some (cs',σ',s')→(∀e',Agr σ.nv e e'→Al (gaC X e') cs xs)→
 σ.nv≤σ'.nv∧σ'.tm=σ.tm∧σ'.ob=σ.ob∧σ'.ft=σ.ft∧∃e1,Agr σ.nv e e1∧∀e',Agr σ'.nv e1 e'→Holds X e' σ' g∧Al (gaC X e') cs' xs
 |[],cs',e,σ,σ',g,xs,s,s',hW,h,hx=>by
  have h:some (([]:List AC),σ,s)=some (cs',σ',s'):=h
  cases h
  exact⟨Nat.le_refl _,rfl,rfl,rfl,e,.refl _ _,fun e' he=>⟨hW e' he,hx e' he⟩⟩
 |c::cs,cs',e,σ,σ',g,xs,s,s',hW,h,hx=>by
  have h:(match nb1 c σ s with
   |some (c,σ,s)=>match nbs cs σ s with|some (cs,σ,s)=>some (c::cs,σ,s)|none=>none
   |none=>none)=some (cs',σ',s'):=h
  split at h
  case h_2=>cases h
  rename_i c1 σ1 s1 h1
  split at h
  case h_2=>cases h
  rename_i cs2 σ2 s2 h2
  cases h
  cases xs with
  |nil=>cases hx e (.refl _ _)
  |cons x xs=>
   have hx0:∀e',Agr σ.nv e e'→gaC X e' c x∧Al (gaC X e') cs xs:=fun e' he=>by
    cases hx e' he;exact⟨by assumption,by assumption⟩
   obtain⟨a1,a2,a3,a4,e1,a5,a6⟩:=nb1_ok hW h1 fun e' he=>(hx0 e' he).1
   obtain⟨b1,b2,b3,b4,e2,b5,b6⟩:=nbs_ok (e:=e1) (g:=g) (xs:=xs) (fun e' he=>(a6 e' he).1) h2 fun e' he=>(hx0 e' (a5.trans (he.mono a1))).2
   refine⟨Nat.le_trans a1 b1,b2.trans a2,b3.trans a3,b4.trans a4,e2,a5.trans (b5.mono a1),fun e' he=>⟨(b6 e' he).1,.cons (a6 e' (b5.trans (he.mono b1))).2 (b6 e' he).2⟩⟩
theorem nbD_ok {d d':AD} {e:AEnv} {σ σ':AS} {g:GS} {x:GD} {s s':Scr} (hW:W X e σ g) (h:nbD d σ s=some (d',σ',s')) (hx:∀e',Agr σ.nv e e'→gaD X e' d x):
 σ.nv≤σ'.nv∧σ'.tm=σ.tm∧σ'.ob=σ.ob∧σ'.ft=σ.ft∧∃e1,Agr σ.nv e e1∧∀e',Agr σ'.nv e1 e'→Holds X e' σ' g∧gaD X e' d' x:=by
 unfold nbD at h
 split at h
 ·split at h
  case h_2=>cases h
  rename_i h1
  cases h
  cases x with
  |ag _=>exact(hx e (.refl _ _)).elim
  |tup _=>exact(hx e (.refl _ _)).elim
  |one x=>exact nb1_ok hW h1 hx
 ·split at h
  case h_2=>cases h
  rename_i h1
  cases h
  cases x with
  |one _=>exact(hx e (.refl _ _)).elim
  |tup _=>exact(hx e (.refl _ _)).elim
  |ag x=>exact nbs_ok hW h1 hx
 ·cases h
  exact⟨Nat.le_refl _,rfl,rfl,rfl,e,.refl _ _,fun e' he=>⟨hW e' he,hx e' he⟩⟩
theorem nbDs_ok:∀{cs cs':List AD} {e:AEnv} {σ σ':AS} {g:GS} {xs:List GD} {s s':Scr},W X e σ g→nbDs cs σ s=some (cs',σ',s')→(∀e',Agr σ.nv e e'→Al (gaD X e') cs xs)→
 σ.nv≤σ'.nv∧σ'.tm=σ.tm∧σ'.ob=σ.ob∧σ'.ft=σ.ft∧∃e1,Agr σ.nv e e1∧∀e',Agr σ'.nv e1 e'→Holds X e' σ' g∧Al (gaD X e') cs' xs
 |[],cs',e,σ,σ',g,xs,s,s',hW,h,hx=>by
  have h:some (([]:List AD),σ,s)=some (cs',σ',s'):=h
  cases h
  exact⟨Nat.le_refl _,rfl,rfl,rfl,e,.refl _ _,fun e' he=>⟨hW e' he,hx e' he⟩⟩
 |c::cs,cs',e,σ,σ',g,xs,s,s',hW,h,hx=>by
  have h:(match nbD c σ s with
   |some (c,σ,s)=>match nbDs cs σ s with|some (cs,σ,s)=>some (c::cs,σ,s)|none=>none
   |none=>none)=some (cs',σ',s'):=h
  split at h
  case h_2=>cases h
  rename_i c1 σ1 s1 h1
  split at h
  case h_2=>cases h
  rename_i cs2 σ2 s2 h2
  cases h
  cases xs with
  |nil=>cases hx e (.refl _ _)
  |cons x xs=>
   have hx0:∀e',Agr σ.nv e e'→gaD X e' c x∧Al (gaD X e') cs xs:=fun e' he=>by
    cases hx e' he;exact⟨by assumption,by assumption⟩
   obtain⟨a1,a2,a3,a4,e1,a5,a6⟩:=nbD_ok hW h1 fun e' he=>(hx0 e' he).1
   obtain⟨b1,b2,b3,b4,e2,b5,b6⟩:=nbDs_ok (e:=e1) (g:=g) (xs:=xs) (fun e' he=>(a6 e' he).1) h2 fun e' he=>(hx0 e' (a5.trans (he.mono a1))).2
   refine⟨Nat.le_trans a1 b1,b2.trans a2,b3.trans a3,b4.trans a4,e2,a5.trans (b5.mono a1),fun e' he=>⟨(b6 e' he).1,.cons (a6 e' (b5.trans (he.mono b1))).2 (b6 e' he).2⟩⟩
end
end Go.Proofs.YtiahijhpjloijaaGreat.V

namespace Go.Proofs.YtiahijhpjloijaaGreat.V
open Go
noncomputable def agargs (X:Cx) (pt:Option (Nat×List AC)) (ads:List AD) (σ:AS) (s:Scr):Option (List AD×Option (Nat×Nat×List AC)×AS×Scr):=
 match pt with
 |none=>match agpure X ads σ s with
  |some (ads',σ',s)=>some (ads',none,σ',s)
  |none=>none
 |some (e0,_)=>match ads with
  | .one (.loc nm 0)::t=>match findO nm σ.ob with
    |some (.X e1 cs)=>Bool.rec none (match afrs (afr X 7) cs σ s with
     |some (cs',σ1,s)=>match findO nm σ1.ob with
      |some (.X _ _)=>match agpure X t (putO nm (.X e0 cs') σ1) s with
       |some (ads',σ2,s)=>match findO nm σ2.ob with
        |some (.X _ _)=>some (ads',some (nm,e0,cs'),σ2,s)
        |_=>none
       |none=>none
      |_=>none
     |none=>none) (Nat.beq e0 e1)
    |_=>none
  |_=>none
section
variable{X:Cx} {e:AEnv} {σ:AS} {g:GS}
def PtrR (X:Cx) (e:AEnv) (σ:AS) (pt:Option (Nat×Nat×List AC)) (pc:Option Nat) (H:List GO):Prop:=
 match pt with
 |none=>pc=none∧H=[]
 |some (nm,e0,cs)=>pc=some (e.ν nm)∧e.on nm=true∧(∃e1 cs1,findO nm σ.ob=some (.X e1 cs1))∧∃us:List U,H=[.ob e0 false (us.map .v)]∧Al (gaC X e) cs (us.map .v)
theorem agpure_noloc:∀{ads ads':List AD} {σ σ':AS} {s s':Scr} {ds:List GD} {e:AEnv},agpure X ads σ s=some (ads',σ',s')→Al (gaD X e) ads ds→∀i t,ds≠.one (.loc i 0)::t:=by
 rintro ads ads' σ σ' s s' ds e h hd i t rfl
 cases hd with
 |@cons a _ ads _ h1 h2=>
  cases a with
  |one c=>
   have h:(match afr X 7 σ c s with
    |some (c,σ,s)=>match agpure X ads σ s with|some (ds,σ,s)=>some (AD.one c::ds,σ,s)|none=>none
    |none=>none)=some (ads',σ',s'):=h
   split at h
   case h_2=>cases h
   rename_i h3;have h1:gaC X e c (.loc i 0):=h1
   cases c with
   |loc nm o=>cases h3
   |eloc nm k n o=>cases h3
   |floc nm ix k o=>cases h3
   |own nm k n=>rcases h1 with⟨_,_,_,h⟩|⟨_,h,_⟩<;>cases h
   |sl t ps n nm=>rcases h1 with⟨h,_⟩|⟨_,_,h,_⟩<;>cases h
   |str x=>obtain⟨_,h,_⟩:=h1;cases h
   |int k x=>cases h1
   |bool b=>cases h1
   |un=>cases h1
   |np=>cases h1
   |nil=>cases h1
  |ag l=>exact h1.elim
  |tup l=>exact h1.elim
  |top=>cases h
theorem agargs_ok {pt:Option (Nat×List AC)} {ads ads':List AD} {pn:Option (Nat×Nat×List AC)} {σ':AS} {ds:List GD} {s s':Scr} (hW:W X e σ g) (h:agargs X pt ads σ s=some (ads',pn,σ',s')) (hd:∀e',Agr σ.nv e e'→Al (gaD X e') ads ds):
 ∃hp1 ds1 pc H0,gargs g.hp ds=some (hp1,withP pt ds1,pc,H0)∧σ.nv≤σ'.nv∧σ'.ft=σ.ft∧(pt=none↔pn=none)∧(∀e0 cs,pt=some (e0,cs)→∃nm cs',pn=some (nm,e0,cs'))∧(∀i,pc=some i→i<hp1.length)∧
  ∃e1,Agr σ.nv e e1∧∀e',Agr σ'.nv e1 e'→Holds X e' σ' ⟨g.tm,hp1⟩∧Al (gaD X e') ads' ds1∧PtrR X e' σ' pn pc H0:=by
 unfold agargs at h
 split at h
 ·split at h
  case h_2=>cases h
  rename_i ads1 σ1 s1 h1
  cases h
  obtain⟨hp1,ds1,k1,k2,k3,e1,k4,k5⟩:=agpure_ok hW h1 hd;have hno:=agpure_noloc h1 (hd e (.refl _ _));refine⟨hp1,ds1,none,[],?_,k2,k3,⟨fun _=>rfl,fun _=>rfl⟩,(fun _ _ h=>by cases h),(fun _ h=>by cases h),e1,k4,fun e' he=>⟨(k5 e' he).1,(k5 e' he).2,rfl,rfl⟩⟩;unfold gargs
  split
  ·exact absurd rfl (hno _ _)
  ·rw[k1];rfl
 ·rename_i e0 pcs
  split at h
  case h_2=>cases h
  rename_i nm t
  split at h
  case h_2=>cases h
  rename_i e1 cs hf;rw[brec']at h
  split at h
  case isFalse=>cases h
  rename_i he01;rw[beq_iff]at he01;subst he01
  split at h
  case h_2=>cases h
  rename_i cs' σ1 s1 h1
  split at h
  case h_2=>cases h
  rename_i e2 cs2 hf1
  split at h
  case h_2=>cases h
  rename_i ads1 σ2 s2 h2
  split at h
  case h_2=>cases h
  rename_i e3 cs3 hf2
  cases h
  cases ds with
  |nil=>cases hd e (.refl _ _)
  |cons d ds=>
   have hd0:∀e',Agr σ.nv e e'→gaD X e' (.one (.loc nm 0)) d∧Al (gaD X e') t ds:=fun e' he=>by
    cases hd e' he;exact⟨by assumption,by assumption⟩
   cases d with
   |ag _=>exact(hd0 e (.refl _ _)).1.elim
   |tup _=>exact(hd0 e (.refl _ _)).1.elim
   |one x=>
    obtain⟨hon,hx⟩:=(hd0 e (.refl _ _)).1;obtain⟨o,ho,gs,rfl,hgs⟩:=hW.holds.ob nm _ hf hon;have hall:∀e',Agr σ.nv e e'→Al (gaC X e') cs gs∧e'.on nm=true∧e'.ν nm=e.ν nm:=fun e' he=>by
     obtain⟨hon',hx'⟩:=(hd0 e' he).1;obtain⟨o',ho',gs',rfl,hgs'⟩:=(hW e' he).ob nm _ hf hon';rw[hx]at hx';injection hx' with hν _
     rw[←hν,ho]at ho'
     cases ho'
     exact⟨hgs',hon',hν.symm⟩
    subst hx;obtain⟨hp1,us,f1,⟨f2,f3,e1',f4,f5⟩,_⟩:=afrs_ok (fun a b c=>afr_ok (n:=6) a b c) hW h1 (xs:=gs) fun e' he=>(hall e' he).1
    have hν1:∀e',Agr σ1.nv e1' e'→e'.on nm=true∧e'.ν nm=e.ν nm:=fun e' he=>(hall e' (f4.trans (he.mono f2))).2
    have hob1:∃o1,hp1[e.ν nm]?=some o1∧∃gs1,o1=.ob e2 false gs1:=by
     obtain⟨a1,a2⟩:=hν1 e1' (.refl _ _);obtain⟨o1,b1,gs1,b2,_⟩:=(f5 e1' (.refl _ _)).1.ob nm _ hf1 a1;rw[a2]at b1;exact⟨o1,b1,gs1,b2⟩
    obtain⟨_,hob1,gs1,rfl⟩:=hob1;have hW2:W X e1' (putO nm (.X e0 cs') σ1) ⟨g.tm,setO hp1 (e.ν nm) (.ob e0 false (us.map .v))⟩:=by
     intro e' he;have he:Agr σ1.nv e1' e':=he;obtain⟨a1,a2⟩:=hν1 e' he;have:=setO_ok (f5 e' he).1 hf1 a1 (ao':=.X e0 cs') (o:=.ob e0 false (us.map .v)) ⟨_,rfl,(f5 e' he).2⟩;rw[a2]at this;exact this
    obtain⟨hp2,ds2,k1,k2,k3,e2',k4,k5⟩:=agpure_ok hW2 h2 (ds:=ds) fun e' he=>(hd0 e' (f4.trans (Agr.mono f2 he))).2
    have k2:σ1.nv≤σ'.nv:=k2;have hν2:∀e',Agr σ'.nv e2' e'→e'.on nm=true∧e'.ν nm=e.ν nm:=fun e' he=>hν1 e' (k4.trans (he.mono k2))
    have hob2:∃gs2,hp2[e.ν nm]?=some (.ob e3 false gs2):=by
     obtain⟨a1,a2⟩:=hν2 e2' (.refl _ _);obtain⟨o1,b1,gs1,rfl,_⟩:=(k5 e2' (.refl _ _)).1.ob nm _ hf2 a1;rw[a2]at b1;exact⟨gs1,b1⟩
    obtain⟨gs2,hob2⟩:=hob2;refine⟨hp2,ds2,some (e.ν nm),[.ob e0 false (us.map .v)],?_,Nat.le_trans f2 k2,k3.trans f3,⟨(fun h=>by cases h),(fun h=>by cases h)⟩,(fun e5 cs5 h5=>by cases h5;exact⟨nm,cs',rfl⟩),(fun i hi=>by cases hi;exact lt_of_get hob2),e2',f4.trans (k4.mono f2),fun e' he=>⟨(k5 e' he).1,(k5 e' he).2,?_⟩⟩
    ·unfold gargs
     simp only[];rw[nth_eq,ho];simp only[f1];rw[nth_eq,hob1];simp only[mapsV_eq];rw[k1];simp only[];rw[nth_eq,hob2];rfl
    ·obtain⟨a1,a2⟩:=hν2 e' he
     exact⟨by rw[a2],a1,⟨e3,cs3,hf2⟩,us,rfl,(f5 e' (k4.trans (he.mono k2))).2⟩
end
noncomputable def mpOut (n0 base nP:Nat) (B:Bd):Mp:=
 ⟨fun v=>Bool.rec (Bool.rec none (some (lV (Nat.add base (Nat.sub v n0)))) (Nat.ble (Nat.succ v) nP)) (findO v B.vb) (Nat.ble (Nat.succ v) n0),
  fun v=>Bool.rec (Bool.rec none (some (Nat.add base (Nat.sub v n0))) (Nat.ble (Nat.succ v) nP)) (findO v B.lb) (Nat.ble (Nat.succ v) n0),
  fun v=>Bool.rec (Bool.rec none (some (some (Nat.add base (Nat.sub v n0)))) (Nat.ble (Nat.succ v) nP)) none (Nat.ble (Nat.succ v) n0)⟩
noncomputable def inScope (n:Nat) (B:Bd):Bool:=Bool.rec false (all (fun z=>Nat.ble (Nat.succ z.2) n) B.lb) (all (fun z=>llt n z.2) B.vb)
noncomputable def newObs (mp:Mp) (l:List (Nat×AO)):Option (List (Nat×AO)):=
 each (fun z=>match mp.ho z.1,tO mp z.2 with|some (some m),some o=>some (m,o)|_,_=>none) l
noncomputable def withPt (pn:Option (Nat×Nat×List AC)) (pcs:List AC) (l:List (Nat×AO)):List (Nat×AO):=match pn with|none=>l|some (nm,e0,_)=>(nm,.X e0 pcs)::l
noncomputable def aout1 (con:Con) (B:Bd) (pn:Option (Nat×Nat×List AC)) (σ:AS) (o:COut) (s:Scr):Ress:=
 match each (sbF (mpOut con.nv σ.nv o.nv B).f) o.fa,tD (mpOut con.nv σ.nv o.nv B) o.d,newObs (mpOut con.nv σ.nv o.nv B) o.ob,each (tC (mpOut con.nv σ.nv o.nv B)) o.pc with
 |some ls,some d,some obs,some pcs=>match s with
  | .n 0::s=>d1 d (facts ls {σ with nv:=Nat.add σ.nv (Nat.sub o.nv con.nv),ob:=app obs (withPt pn pcs σ.ob)}) s
  | .n 1::s=>match never (facts ls σ).fa s with|some s=>some ([],s)|none=>none
  |_=>none
 |_,_,_,_=>none
noncomputable def aouts (con:Con) (B:Bd) (pn:Option (Nat×Nat×List AC)) (σ:AS) (l:List COut):Scr→Ress:=
 List.rec (fun s=>some ([],s)) (fun o _ ih s=>match aout1 con B pn σ o s with
  |some (l1,s)=>match ih s with|some (l2,s)=>some (app l1 l2,s)|none=>none
  |none=>none) l
noncomputable def ptCells (pn:Option (Nat×Nat×List AC)):List AC:=match pn with|none=>[]|some (_,_,cs)=>cs
noncomputable def conCells (con:Con):List AC:=match con.ptr with|none=>[]|some (_,cs)=>cs
noncomputable def ghosts (b:Bool) (s:Scr):Option (List (Nat×Lin)×Scr):=Bool.rec (some ([],s)) (match s with| .x l::s=>some (l,s)|_=>none) b
noncomputable def ckMe (X:Cx) (fa:Tr Lin) (mp:Mp) (me:List (Nat×Lin×List AC)) (l:List (Nat×Lin×List AC)):Scr→Option Scr:=
 List.rec (fun s=>some s) (fun z _ ih s=>match mp.hl z.1,sbF mp.f z.2.1 with
  |some m,some q=>match findM m q (len z.2.2) me with
   |some cs=>match ckCs X fa mp z.2.2 cs s with|some s=>ih s|none=>none
   |none=>none
  |_,_=>none) l
noncomputable def acall2 (X:Cx) (con:Con) (ads:List AD) (pcs:List AC) (pn:Option (Nat×Nat×List AC)) (B:Bd) (σ:AS) (s:Scr):Ress:=
 match ckDs X σ.fa (mpOf 0 con.nv B) con.ps ads s with
 |some s=>match ckCs X σ.fa (mpOf 0 con.nv B) (conCells con) pcs s with
  |some s=>match ckF σ.fa (mpOf 0 con.nv B) con.fa s with
   |some s=>match ckMe X σ.fa (mpOf 0 con.nv B) σ.me con.me s with
    |some s=>Bool.rec none (aouts con B pn σ con.outs s) (Bool.rec false (okNames σ) (inScope σ.nv B))
    |none=>none
   |none=>none
  |none=>none
 |none=>none
noncomputable def acall (X:Cx) (ct:Nat→Option Con) (lev f:Nat) (ads:List AD) (σ:AS) (s:Scr):Ress:=
 match ct f with
 |some con=>Bool.rec none (match agargs X con.ptr ads σ s with
  |some (ads,pn,σ,s)=>match nbDs ads σ s with
   |some (ads,σ,s)=>match nbs (ptCells pn) σ s with
    |some (pcs,σ,s)=>match ghosts con.gh s with
     |some (l,s)=>acall2 X con ads pcs pn (bCs 0 (conCells con) pcs (bDs 0 con.ps ads ⟨l,[],[]⟩)) σ s
     |none=>none
    |none=>none
   |none=>none
  |none=>none) (Nat.ble (Nat.succ con.lev) lev)
 |none=>none
section
variable{X:Cx}
theorem back_get {hp1 H':List GO} {pc:Option Nat} {d:GD} (hpc:∀i,pc=some i→i<hp1.length) (hH:pc≠none→0<H'.length):∃hp',gback hp1 pc d H'=some (renGD (rn pc hp1.length) d,hp')∧
 (∀j o,H'[j]?=some o→hp'[rn pc hp1.length j]?=some (renGO (rn pc hp1.length) o))∧(∀m o,pc≠some m→hp1[m]?=some o→hp'[m]?=some o):=by
 cases pc with
 |none=>
  refine⟨_,by unfold gback;rw[len_eq],fun j o hj=>?_,fun m o _ hm=>?_⟩
  ·show(app hp1 (maps (renGO (rn none hp1.length)) H'))[hp1.length+j]?=_
   rw[app_eq,List.getElem?_append,if_neg (by omega),maps_eq,List.getElem?_map,show hp1.length+j-hp1.length=j from by omega,hj];rfl
  ·rw[app_eq,List.getElem?_append,if_pos (lt_of_get hm)];exact hm
 |some i=>
  have hi:=hpc i rfl
  cases H' with
  |nil=>exact absurd (hH (by intro h;cases h)) (Nat.lt_irrefl _)
  |cons o0 t=>
   refine⟨_,by unfold gback;rw[len_eq],fun j o hj=>?_,fun m o hne hm=>?_⟩
   ·cases j with
    |zero=>
     cases hj
     show(app (setO hp1 i _) _)[i]?=_;rw[app_eq,List.getElem?_append,setO_len,if_pos hi,setO_get hi,if_pos rfl]
    |succ j=>
     have hj:t[j]?=some o:=hj;show(app (setO hp1 i _) (maps (renGO (rn (some i) hp1.length)) t))[hp1.length+j]?=_;rw[app_eq,List.getElem?_append,setO_len,if_neg (by omega),maps_eq,List.getElem?_map,show hp1.length+j-hp1.length=j from by omega,hj];rfl
   ·rw[app_eq,List.getElem?_append,setO_len,if_pos (lt_of_get hm),setO_get hi,if_neg];· exact hm
    rintro rfl;exact hne rfl
def behE (n0 base:Nat) (r:Nat→Nat) (e ec:AEnv):AEnv:=
 ⟨fun w=>if w<base then e.ρ w else ec.ρ (n0+(w-base)),fun w=>if w<base then e.ν w else r (ec.ν (n0+(w-base))),fun w=>if w<base then e.on w else ec.on (n0+(w-base)),fun w=>if w<base then e.L w else ec.L (n0+(w-base))⟩
theorem agr_behE (n0 base:Nat) (r:Nat→Nat) (e ec:AEnv):Agr base e (behE n0 base r e ec):=fun v hv=>⟨if_pos hv,if_pos hv,if_pos hv,if_pos hv⟩
theorem mpOut_ok {n0 base nP:Nat} {B:Bd} {r:Nat→Nat} {e ec e2:AEnv} (hs:inScope base B=true) (hc:Agr n0 (penv 0 B e) ec) (h2:Agr (base+(nP-n0)) (behE n0 base r e ec) e2):TrOk r e2 ec (mpOut n0 base nP B):=by
 obtain⟨hs1,hs2⟩:=and2 hs;have he2:Agr base e e2:=(agr_behE n0 base r e ec).trans (h2.mono (by omega));have high:∀v,n0≤v→v<nP→e2.ρ (base+(v-n0))=ec.ρ v∧e2.ν (base+(v-n0))=r (ec.ν v)∧e2.on (base+(v-n0))=ec.on v∧e2.L (base+(v-n0))=ec.L v:=by
  intro v h0 hv;obtain⟨a1,a2,a3,a4⟩:=h2 (base+(v-n0)) (by omega);have hn:¬base+(v-n0)<base:=by omega
  have hv':n0+(base+(v-n0)-base)=v:=by omega
  refine⟨a1.trans ?_,a2.trans ?_,a3.trans ?_,a4.trans ?_⟩
  ·show(if _ then _ else _)=_;rw[if_neg hn,hv']
  ·show(if _ then _ else _)=_;rw[if_neg hn,hv']
  ·show(if _ then _ else _)=_;rw[if_neg hn,hv']
  ·show(if _ then _ else _)=_;rw[if_neg hn,hv']
 refine⟨fun v q hq=>?_,fun v m hm=>?_,fun v m hm=>?_,fun v hm=>?_⟩
 ·have hq:(Bool.rec (Bool.rec none (some (lV (base+(v-n0)))) (Nat.ble (Nat.succ v) nP)) (findO v B.vb) (Nat.ble (Nat.succ v) n0):Option Lin)=some q:=hq
  rw[brec']at hq
  split at hq
  ·rename_i hv
   rw[ble_iff]at hv;have hql:=all_true hs1 (v,q) (findO_in hq);rw[llt_ok hql he2,(hc v hv).1];show lv e.ρ q=if v<0 then e.ρ v else match findO v B.vb with|some x=>lv e.ρ x|none=>0
   rw[if_neg (by omega),hq]
  ·rename_i hv
   rw[ble_iff]at hv;rw[brec']at hq
   split at hq
   ·rename_i hp
    rw[ble_iff]at hp
    cases hq
    rw[lv_V];exact(high v (by omega) hp).1
   ·cases hq
 ·have hm:(Bool.rec (Bool.rec none (some (base+(v-n0))) (Nat.ble (Nat.succ v) nP)) (findO v B.lb) (Nat.ble (Nat.succ v) n0):Option Nat)=some m:=hm
  rw[brec']at hm
  split at hm
  ·rename_i hv
   rw[ble_iff]at hv;have hql:=all_true hs2 (v,m) (findO_in hm);rw[ble_iff]at hql;rw[(he2 m hql).2.2.2,(hc v hv).2.2.2];show e.L m=if v<0 then e.L v else match findO v B.lb with|some m=>e.L m|none=>[]
   rw[if_neg (by omega),hm]
  ·rename_i hv
   rw[ble_iff]at hv;rw[brec']at hm
   split at hm
   ·rename_i hp
    rw[ble_iff]at hp
    cases hm
    exact(high v (by omega) hp).2.2.2
   ·cases hm
 ·have hm:(Bool.rec (Bool.rec none (some (some (base+(v-n0)))) (Nat.ble (Nat.succ v) nP)) none (Nat.ble (Nat.succ v) n0):Option (Option Nat))=some (some m):=hm
  rw[brec']at hm
  split at hm
  ·cases hm
  ·rename_i hv
   rw[ble_iff]at hv;rw[brec']at hm
   split at hm
   ·rename_i hp
    rw[ble_iff]at hp
    cases hm
    obtain⟨_,h3,h4,_⟩:=high v (by omega) hp;exact⟨h4,fun _=>h3⟩
   ·cases hm
 ·have hm:(Bool.rec (Bool.rec none (some (some (base+(v-n0)))) (Nat.ble (Nat.succ v) nP)) none (Nat.ble (Nat.succ v) n0):Option (Option Nat))=some none:=hm
  rw[brec']at hm
  split at hm
  ·cases hm
  ·rw[brec']at hm
   split at hm<;>cases hm
theorem findO_app {α:Type} (n:Nat):∀(a b:List (Nat×α)),findO n (app a b)=match findO n a with|some x=>some x|none=>findO n b
 |[],b=>rfl
 |z::a,b=>by
  obtain⟨m,o⟩:=z;show findO n ((m,o)::app a b)=_;rw[findO_cons,findO_cons,findO_app n a b]
  split<;>rfl
theorem rn_ge {pc:Option Nat} {base j:Nat} (h:pc=none∨j≠0):base≤rn pc base j:=by
 cases pc with
 |none=>show base≤base+j;omega
 |some i=>
  cases j with
  |zero=>rcases h with h|h;· cases h
         ·exact absurd rfl h
  |succ j=>show base≤base+j;omega
theorem rn_inj {pc:Option Nat} {base j k:Nat} (hj:pc=none∨j≠0) (hk:pc=none∨k≠0) (h:rn pc base j=rn pc base k):j=k:=by
 cases pc with
 |none=>have h:base+j=base+k:=h;omega
 |some i=>
  cases j with
  |zero=>rcases hj with h|h;· cases h
         ·exact absurd rfl h
  |succ j=>cases k with
   |zero=>rcases hk with h|h;· cases h
          ·exact absurd rfl h
   |succ k=>have h:base+j=base+k:=h;omega
theorem aouts_in {con:Con} {B:Bd} {pn:Option (Nat×Nat×List AC)} {σ:AS} {Q:AD×AS→Prop}:∀{os:List COut} {l:List (AD×AS)} {s s':Scr},aouts con B pn σ os s=some (l,s')→∀o∈os,(∀l1 s1 s2,aout1 con B pn σ o s1=some (l1,s2)→∃z∈l1,Q z)→∃z∈l,Q z
 |[],l,s,s',h,o,ho,hQ=>by cases ho
 |o1::os,l,s,s',h,o,ho,hQ=>by
  have h:(match aout1 con B pn σ o1 s with
   |some (l1,s)=>match aouts con B pn σ os s with|some (l2,s)=>some (app l1 l2,s)|none=>none
   |none=>none)=some (l,s'):=h
  split at h
  case h_2=>cases h
  rename_i l1 s1 h1
  split at h
  case h_2=>cases h
  rename_i l2 s2 h2
  cases h
  rw[app_eq]
  cases ho with
  |head=>
   obtain⟨z,hz,hq⟩:=hQ _ _ _ h1;exact⟨z,List.mem_append_left _ hz,hq⟩
  |tail _ ho=>
   obtain⟨z,hz,hq⟩:=aouts_in h2 o ho hQ;exact⟨z,List.mem_append_right _ hz,hq⟩
theorem newObs_in {mp:Mp} {l m:List (Nat×AO)} (h:newObs mp l=some m) {n:Nat} {ao:AO} (hf:findO n m=some ao):∃z∈l,mp.ho z.1=some (some n)∧tO mp z.2=some ao:=by
 have hin:=findO_in hf;obtain⟨i,hi⟩:=List.getElem?_of_mem hin;have hsp:=each_spec _ _ _ h;obtain⟨z,hz⟩:∃z,l[i]?=some z:=by
  have:=lt_of_get hi;rw[←hsp.len]at this;exact⟨_,List.getElem?_eq_getElem this⟩
 obtain⟨y,hy,hyz⟩:=hsp.get hz;rw[hi]at hy;cases hy
 split at hyz
 ·rename_i m o h1 h2
  cases hyz
  exact⟨z,List.mem_of_getElem? hz,h1,h2⟩
 ·cases hyz
end
end Go.Proofs.YtiahijhpjloijaaGreat.V

namespace Go.Proofs.YtiahijhpjloijaaGreat.V
open Go
theorem facts_fa:∀(l:List Lin) (σ σ':AS),σ.fa=σ'.fa→σ.nf=σ'.nf→(facts l σ).fa=(facts l σ').fa
 |[],_,_,h,_=>h
 |x::l,σ,σ',h,k=>facts_fa l (fact x σ) (fact x σ') (by show Tr.set σ.nf x σ.fa=Tr.set σ'.nf x σ'.fa;rw[h,k]) (by show Pos.succ σ.nf=Pos.succ σ'.nf;rw[k])
section
variable{X:Cx} {e:AEnv} {σ:AS} {g:GS}
theorem aout1_ok {con:Con} {B:Bd} {pn:Option (Nat×Nat×List AC)} {o:COut} {l:List (AD×AS)} {s s':Scr} {hp1 hp' H':List GO} {pc:Option Nat} {d:GD} {ec:AEnv} (h:aout1 con B pn σ o s=some (l,s')) (hsc:inScope σ.nv B=true) (hnm:okNames σ=true) (hnv:con.nv≤o.nv)
 (hW:W X e σ ⟨g.tm,hp1⟩) (hec:Agr con.nv (penv 0 B e) ec) (hP:PostH X ec o con d H') (hcp:con.ptr=none↔pn=none) (hpt:∀e0 cs,con.ptr=some (e0,cs)→∃nm cs',pn=some (nm,e0,cs'))
 (hpn:∀e',Agr σ.nv e e'→∀nm e0 cs,pn=some (nm,e0,cs)→pc=some (e'.ν nm)∧e'.on nm=true∧findO nm σ.ob≠none) (hpc:pn=none→pc=none)
 (hget:∀j x,H'[j]?=some x→hp'[rn pc hp1.length j]?=some (renGO (rn pc hp1.length) x)) (hold:∀m x,pc≠some m→hp1[m]?=some x→hp'[m]?=some x):
 ∃z∈l,OpR X e σ g (renGD (rn pc hp1.length) d) hp' z:=by
 unfold aout1 at h
 split at h
 case h_2=>cases h
 rename_i ls da obs pcs hls hda hobs hpcs;have hpcn:con.ptr=none→pc=none:=fun hc=>hpc (hcp.1 hc)
 have key:∀e2,Agr (σ.nv+(o.nv-con.nv)) (behE con.nv σ.nv (rn pc hp1.length) e ec) e2→Holds X e2 (facts ls {σ with nv:=σ.nv+(o.nv-con.nv),ob:=app obs (withPt pn pcs σ.ob)}) ⟨g.tm,hp'⟩∧gaD X e2 da (renGD (rn pc hp1.length) d):=by
  intro e2 he2;have hT:=mpOut_ok (r:=rn pc hp1.length) hsc hec he2;have hee:Agr σ.nv e e2:=(agr_behE _ _ _ _ _).trans (he2.mono (by omega));have hH:=hW e2 hee;have new:∀n ao,findO n obs=some ao→∃z∈o.ob,n=σ.nv+(z.1-con.nv)∧con.nv≤z.1∧z.1<o.nv∧e2.on n=ec.on z.1∧(ec.on z.1=true→e2.ν n=rn pc hp1.length (ec.ν z.1)∧(pc=none∨ec.ν z.1≠0)∧∃x,hp'[e2.ν n]?=some x∧gaO X e2 ao x):=by
   intro n ao hf;obtain⟨z,hz,hho,hto⟩:=newObs_in hobs hf;obtain⟨b1,b2,b3⟩:=hP.ob z hz;have hn:n=σ.nv+(z.1-con.nv):=by
    have hho:(Bool.rec (Bool.rec none (some (some (σ.nv+(z.1-con.nv)))) (Nat.ble (Nat.succ z.1) o.nv)) none (Nat.ble (Nat.succ z.1) con.nv):Option (Option Nat))=some (some n):=hho;rw[brec']at hho
    split at hho
    ·cases hho
    ·rw[brec']at hho
     split at hho
     ·cases hho;rfl
     ·cases hho
   obtain⟨c1,c2⟩:=hT.ho _ _ hho;refine⟨z,hz,hn,b1,b2,c1,fun hon=>?_⟩;obtain⟨b4,x,b5,b6⟩:=b3 hon;refine⟨c2 hon,b4.imp hpcn id,_,?_,tO_ok hT hto b6⟩;rw[c2 hon];exact hget _ _ b5
  have ptr:∀nm e0 cs,pn=some (nm,e0,cs)→pc=some (e2.ν nm)∧e2.on nm=true∧findO nm σ.ob≠none∧∃x,hp'[e2.ν nm]?=some x∧gaO X e2 (.X e0 pcs) x:=by
   intro nm e0 cs hpe;obtain⟨a1,a2,a3⟩:=hpn e2 hee nm e0 cs hpe;have hcpt:∃e1 cs1,con.ptr=some (e1,cs1):=by
    cases hc:con.ptr with
    |none=>rw[hcp.1 hc]at hpe;cases hpe
    |some z=>exact⟨z.1,z.2,rfl⟩
   obtain⟨e1,cs1,hc⟩:=hcpt;obtain⟨nm2,cs2,hpe2⟩:=hpt e1 cs1 hc;rw[hpe]at hpe2
   cases hpe2
   obtain⟨gs,b1,b2⟩:=hP.ptr e0 cs1 hc;refine⟨a1,a2,a3,.ob e0 false (V.maps (renG (rn pc hp1.length)) gs),?_,⟨_,rfl,by rw[maps_eq];exact tCs_ok hT hpcs b2⟩⟩;have:=hget 0 _ b1;rw[a1]at this⊢;exact this
  have oldlt:∀n,findO n σ.ob≠none→n<σ.nv:=by
   intro n hn
   cases hf:findO n σ.ob with
   |none=>exact absurd hf hn
   |some a=>exact named hnm hf
  have oldν:∀n,findO n σ.ob≠none→e2.on n=true→e2.ν n<hp1.length:=by
   intro n hn hon
   cases hf:findO n σ.ob with
   |none=>exact absurd hf hn
   |some a=>obtain⟨x,hx,_⟩:=hH.ob n a hf hon;exact lt_of_get hx
  have cases3:∀n ao,findO n (app obs (withPt pn pcs σ.ob))=some ao→findO n obs=some ao∨(∃e0 cs,pn=some (n,e0,cs)∧ao=.X e0 pcs)∨(findO n σ.ob=some ao∧(∀e0 cs,pn≠some (n,e0,cs))):=by
   intro n ao hf;rw[findO_app]at hf
   split at hf
   ·rename_i hf2;rw[hf2];exact .inl hf
   ·cases pn with
    |none=>exact .inr (.inr ⟨hf,fun _ _ h=>by cases h⟩)
    |some z=>
     obtain⟨nm,e0,cs⟩:=z;have hf:findO n ((nm,.X e0 pcs)::σ.ob)=some ao:=hf;rw[findO_cons]at hf
     split at hf
     ·rename_i he
      cases hf
      exact .inr (.inl ⟨e0,cs,by rw[he],rfl⟩)
     ·rename_i hne
      refine .inr (.inr ⟨hf,fun e1 cs1 h=>?_⟩);injection h with h
      injection h with h _
      exact hne h
  refine⟨facts_ok ⟨hH.tm,?_,?_,hH.me,hH.fa⟩ ?_,tD_ok hT hda hP.d⟩
  ·intro n ao hf hon
   rcases cases3 n ao hf with h1|⟨e0,cs,h1,rfl⟩|⟨h1,h2⟩
   ·obtain⟨z,hz,_,_,_,b4,b5⟩:=new n ao h1
    rw[b4]at hon;exact(b5 hon).2.2
   ·exact(ptr n e0 cs h1).2.2.2
   ·obtain⟨x,hx,hgx⟩:=hH.ob n ao h1 hon
    refine⟨x,hold _ _ ?_ hx,hgx⟩;intro hpe
    cases hpn2:pn with
    |none=>rw[hpc hpn2]at hpe;cases hpe
    |some z=>
     obtain⟨nm,e0,cs⟩:=z;obtain⟨a1,a2,a3,_⟩:=ptr nm e0 cs hpn2;rw[a1]at hpe;injection hpe with hpe
     have:=hH.inj nm n a3 (by rw[h1];exact Option.some_ne_none _) a2 hon hpe;subst this;exact h2 e0 cs hpn2
  ·intro a b ha hb hoa hob hab
   have cls:∀n,findO n (app obs (withPt pn pcs σ.ob))≠none→(∃ao,findO n obs=some ao)∨findO n σ.ob≠none:=by
    intro n hn
    cases hf:findO n (app obs (withPt pn pcs σ.ob))with
    |none=>exact absurd hf hn
    |some ao=>
     rcases cases3 n ao hf with h1|⟨e0,cs,h1,rfl⟩|⟨h1,h2⟩
     ·exact .inl ⟨_,h1⟩
     ·exact .inr (ptr n e0 cs h1).2.2.1
     ·exact .inr (by rw[h1];exact Option.some_ne_none _)
   have newν:∀n,(∃ao,findO n obs=some ao)→e2.on n=true→hp1.length≤e2.ν n:=by
    rintro n ⟨ao,hf⟩ hon
    obtain⟨z,hz,_,_,_,b4,b5⟩:=new n ao hf;rw[b4]at hon;obtain⟨c1,c2,_⟩:=b5 hon;rw[c1];exact rn_ge c2
   rcases cls a ha with h1|h1<;>rcases cls b hb with h2|h2
   ·obtain⟨aa,h1⟩:=h1
    obtain⟨ab,h2⟩:=h2;obtain⟨y,hy,y1,y2,y3,y4,y5⟩:=new a aa h1;obtain⟨z,hz,z1,z2,z3,z4,z5⟩:=new b ab h2;rw[y4]at hoa;rw[z4]at hob;obtain⟨c1,c2,_⟩:=y5 hoa;obtain⟨c3,c4,_⟩:=z5 hob;rw[c1,c3]at hab;have:=hP.inj y hy z hz hoa hob (rn_inj c2 c4 hab);rw[y1,z1,this]
   ·have:=newν a h1 hoa
    have:=oldν b h2 hob;omega
   ·have:=newν b h2 hob
    have:=oldν a h1 hoa;omega
   ·exact hH.inj a b h1 h2 hoa hob hab
  ·intro x hx
   obtain⟨i,hi⟩:=List.getElem?_of_mem hx;have hsp:=each_spec _ _ _ hls;obtain⟨q,hq⟩:∃q,o.fa[i]?=some q:=by
    have:=lt_of_get hi;rw[←hsp.len]at this;exact⟨_,List.getElem?_eq_getElem this⟩
   obtain⟨x',hx',hxq⟩:=hsp.get hq;rw[hi]at hx';cases hx';rw[tr_lin hT hxq];exact hP.fa q (List.mem_of_getElem? hq)
 split at h
 ·cases h
  refine⟨_,List.mem_cons_self,?_,facts_ft _ _,behE con.nv σ.nv (rn pc hp1.length) e ec,agr_behE _ _ _ _ _,fun e2 he2=>?_⟩
  ·show σ.nv≤(facts ls _).nv
   rw[facts_nv];exact Nat.le_add_right _ _
  ·have he2:Agr (facts ls {σ with nv:=σ.nv+(o.nv-con.nv),ob:=app obs (withPt pn pcs σ.ob)}).nv (behE con.nv σ.nv (rn pc hp1.length) e ec) e2:=he2
   rw[facts_nv]at he2;exact key e2 he2
 ·split at h
  case h_2=>cases h
  rename_i hnev;have hF:=(key _ (.refl _ _)).1.fa;rw[←facts_fa ls σ {σ with nv:=σ.nv+(o.nv-con.nv),ob:=app obs (withPt pn pcs σ.ob)} rfl rfl]at hF;exact(never_ok hF hnev).elim
 ·cases h
theorem ckMe_ok {e eP:AEnv} {mp:Mp} {fa:Tr Lin} {me:List (Nat×Lin×List AC)} (hF:Facts e.ρ fa) (h:MpOk e eP mp) (hm:∀z∈me,gaM X e z):∀{l:List (Nat×Lin×List AC)} {s s':Scr},ckMe X fa mp me l s=some s'→∀z∈l,gaM X eP z
 |[],_,_,_=>fun z hz=>by cases hz
 |y::l,s,s',hc=>by
  have hc:(match mp.hl y.1,sbF mp.f y.2.1 with
   |some m,some q=>match findM m q (len y.2.2) me with
    |some cs=>match ckCs X fa mp y.2.2 cs s with|some s=>ckMe X fa mp me l s|none=>none
    |none=>none
   |_,_=>none)=some s':=hc
  split at hc
  case h_2=>cases hc
  rename_i m q hm1 hq
  split at hc
  case h_2=>cases hc
  rename_i cs hcs
  split at hc
  case h_2=>cases hc
  rename_i s1 h1;intro z hz;rcases List.mem_cons.1 hz with rfl|hz
  case inr=>exact ckMe_ok hF h hm hc z hz
  obtain⟨x,hx,rfl,hlz,rfl,hk⟩:=findM_ok hcs;obtain⟨j,hj,us,hus,hal⟩:=hm x hx;have hl:=h.hl _ _ hm1;rw[len_eq]at hk;refine⟨j,?_,us,?_,ckCs_ok hF h h1 hal⟩
  ·rw[hj,←sb_lin h hq]
   have:=lz_ok e.ρ hlz;rw[lv_sub]at this;omega
  ·rw[hl,←hk];exact hus
theorem acall_ok {O2:Oracle2} {ct:Nat→Option Con} {lev f:Nat} (hct:∀con,ct f=some con→con.lev<lev→ConOk X O2 f con) (hW:W X e σ g) {ads:List AD} {ds:List GD} {l:List (AD×AS)} {s s':Scr} (h:acall X ct lev f ads σ s=some (l,s'))
 (hd:∀e',Agr σ.nv e e'→Al (gaD X e') ads ds):∃d' hp',gcall O2 f ds g.hp=some (d',hp')∧∃z∈l,OpR X e σ g d' hp' z:=by
 unfold acall at h
 split at h
 case h_2=>cases h
 rename_i con hcon;rw[brec']at h
 split at h
 case isFalse=>cases h
 rename_i hlev;rw[ble_iff]at hlev;have hC:=hct con hcon hlev
 split at h
 case h_2=>cases h
 rename_i ads1 pn σ1 s1 h1
 split at h
 case h_2=>cases h
 rename_i ads2 σ2 s2 h2
 split at h
 case h_2=>cases h
 rename_i pcs σ3 s3 h3
 split at h
 case h_2=>cases h
 rename_i gl s4 h4;obtain⟨hp1,ds1,pc,H0,a1,a2,a3,a4,a5,a6,e1,a7,a8⟩:=agargs_ok hW h1 hd;have hW1:W X e1 σ1 ⟨g.tm,hp1⟩:=fun e' he=>(a8 e' he).1
 obtain⟨b1,b2,b3,b4,e2,b5,b6⟩:=nbDs_ok hW1 h2 fun e' he=>(a8 e' he).2.1
 have hW2:W X e2 σ2 ⟨g.tm,hp1⟩:=fun e' he=>(b6 e' he).1
 have hpcell:∃us:List U,∀e',Agr σ2.nv e2 e'→Al (gaC X e') (ptCells pn) (us.map .v)∧(match pn with|none=>H0=[]|some (_,e0,_)=>H0=[.ob e0 false (us.map .v)]):=by
  cases pn with
  |none=>exact⟨[],fun e' he=>⟨.nil,((a8 e' (b5.trans (he.mono b1))).2.2).2⟩⟩
  |some z=>
   obtain⟨nm,e0,cs⟩:=z;obtain⟨_,_,_,us,q1,q2⟩:=(a8 e1 (.refl _ _)).2.2;refine⟨us,fun e' he=>?_⟩;obtain⟨_,_,_,us',q3,q4⟩:=(a8 e' (b5.trans (he.mono b1))).2.2;rw[q1]at q3;have:us=us':=by
    injection q3 with q3 _
    injection q3 with _ _ q3
    exact mapv_inj q3
   rw[←this]at q4;exact⟨q4,q1⟩
 obtain⟨us,hpcell⟩:=hpcell;obtain⟨c1,c2,c3,c4,e3,c5,c6⟩:=nbs_ok hW2 h3 fun e' he=>(hpcell e' he).1
 have hW3:W X e3 σ3 ⟨g.tm,hp1⟩:=fun e' he=>(c6 e' he).1
 have hargs:∀e',Agr σ3.nv e3 e'→Al (gaD X e') ads2 ds1:=fun e' he=>(b6 e' (c5.trans (he.mono c1))).2
 have hcells:∀e',Agr σ3.nv e3 e'→Al (gaC X e') pcs (us.map .v):=fun e' he=>(c6 e' he).2
 unfold acall2 at h
 split at h
 case h_2=>cases h
 rename_i s5 h5
 split at h
 case h_2=>cases h
 rename_i s6 h6
 split at h
 case h_2=>cases h
 rename_i s7 h7
 split at h
 case h_2=>cases h
 rename_i s8 h8;rw[brec']at h
 split at h
 case isFalse=>cases h
 rename_i hb;obtain⟨hsc,hnm⟩:=and2 hb;generalize hB:bCs 0 (conCells con) pcs (bDs 0 con.ps ads2 ⟨gl,[],[]⟩)=B at h h5 h6 h7 h8 hsc;have pre:∀ec,Agr con.nv (penv 0 B e3) ec→PreH X ec con ds1 H0:=by
  intro ec hec;have hM:=mpOf_ok (Nat.zero_le con.nv) B e3 hec;have hF:=hW3.holds.fa;refine⟨ckF_ok hF hM h7,ckDs_ok hF hM h5 (hargs e3 (.refl _ _)),?_,ckMe_ok hF hM hW3.holds.me h8⟩;have hcs:=ckCs_ok hF hM h6 (hcells e3 (.refl _ _));have hp:=(hpcell e2 (.refl _ _)).2;unfold PreP
  cases hcp:con.ptr with
  |none=>
   have:=a4.1 hcp;subst this;exact hp
  |some z=>
   obtain⟨e0,cs⟩:=z;obtain⟨nm,cs',rfl⟩:=a5 e0 cs hcp;refine⟨us.map .v,hp,?_⟩;unfold conCells at hcs;rw[hcp]at hcs;exact hcs
 obtain⟨d,H',r1,o,r2,r3,ec,r4,r5⟩:=hC (penv 0 B e3) ds1 H0 pre;have hP:=r5 ec (.refl _ _);have hHl:pc≠none→0<H'.length:=by
  intro hne
  cases hcp:con.ptr with
  |none=>
   have hpn:=a4.1 hcp;subst hpn;have:=((a8 e1 (.refl _ _)).2.2).1;exact absurd this hne
  |some z=>
   obtain⟨e0,cs⟩:=z;obtain⟨gs,q1,_⟩:=hP.ptr e0 cs hcp;exact lt_of_get q1
 obtain⟨hp',t1,t2,t3⟩:=back_get (d:=d) a6 hHl;refine⟨renGD (rn pc hp1.length) d,hp',?_,?_⟩
 ·unfold gcall
  rw[a1];simp only[r1];exact t1
 ·obtain⟨z,hz,q1,q2,q3⟩:=aouts_in (Q:=fun z=>OpR X e3 σ3 g (renGD (rn pc hp1.length) d) hp' z) h o r2 fun l1 s1 s2 ho=>by
   refine aout1_ok ho hsc hnm r3 hW3 r4 hP a4 a5 ?_ ?_ t2 t3
   ·intro e' he nm e0 cs hpe
    subst hpe;obtain⟨q1,q2,⟨e9,cs9,q3⟩,_⟩:=(a8 e' (b5.trans ((c5.trans (he.mono c1)).mono b1))).2.2;refine⟨q1,q2,?_⟩;rw[c3,b3,q3];exact Option.some_ne_none _
   ·intro hpe
    subst hpe;exact((a8 e1 (.refl _ _)).2.2).1
  refine⟨z,hz,by omega,q2.trans (c4.trans (b4.trans a3)),?_⟩;obtain⟨e4,q4,q5⟩:=q3;exact⟨e4,a7.trans ((b5.trans ((c5.trans (q4.mono c1)).mono b1)).mono a2),q5⟩
end
end Go.Proofs.YtiahijhpjloijaaGreat.V

namespace Go.Proofs.YtiahijhpjloijaaGreat.V
open Go
noncomputable def gop (P:Program) (O:Oracle2) (i:I) (tm:Tr GD) (hp:List GO):Option (GD×List GO):=
 match i with
 | .call f xs=>match each (gval tm) xs with
   |some ds=>gcall O f ds hp
   |none=>none
 |op=>grd P op tm hp
noncomputable def aop (X:Cx) (K:TypeId→Option (List Nat)) (ct:Nat→Option Con) (lev:Nat) (i:I) (σ:AS) (s:Scr):Ress:=
 match i with
 | .call f xs=>match each (aval σ.tm) xs with
   |some ads=>acall X ct lev f ads σ s
   |none=>none
 | .alloc e zs=>ard1 X (.alloc e zs) σ s
 | .box e k x=>ard1 X (.box e k x) σ s
 | .bsl e k n zs ps=>ard1 X (.bsl e k n zs ps) σ s
 | .mk e k n zs=>ard1 X (.mk e k n zs) σ s
 | .ld k ag a=>ard1 X (.ld k ag a) σ s
 | .st k a x=>ard1 X (.st k a x) σ s
 | .ias k x ix=>ard1 X (.ias k x ix) σ s
 | .s2b e x=>ard1 X (.s2b e x) σ s
 | .sl k x lo hi=>ard2 X (.sl k x lo hi) σ s
 | .ap e k b x y=>ard2 X (.ap e k b x y) σ s
 | .aps e b x y=>ard2 X (.aps e b x y) σ s
 | .apz e k b zs x y=>ard2 X (.apz e k b zs x y) σ s
 | .b2s x=>ard2 X (.b2s x) σ s
 |i=>ard0 X K i σ s
abbrev AAc:=Bool×Option Nat×Option (Nat×Nat)
noncomputable def anewE (d:AD):List AAc:=
 match d with
 | .one (.own nm _ _)=>[(true,some nm,none)]
 | .one (.loc nm _)=>[(true,some nm,none)]
 | .one (.eloc nm _ _ _)=>[(true,some nm,none)]
 |_=>[]
noncomputable def aaccC (w:Bool) (c:AC):List AAc:=
 match c with
 | .own nm _ _=>[(w,some nm,none)]
 | .sl _ _ _ _=>[(w,none,none)]
 |_=>[]
noncomputable def aaccX (σ:AS) (d:AD) (x:A):Option (List AAc):=match acel σ.tm x with|some c=>some (app (anewE d) (aaccC true c))|none=>none
noncomputable def afoot (i:I) (σ:AS) (d:AD):Option (List AAc):=
 match i with
 | .alloc .. =>some (anewE d)
 | .box .. =>some (anewE d)
 | .bsl .. =>some (anewE d)
 | .mk .. =>some (anewE d)
 | .s2b .. =>some (anewE d)
 | .ld k _ a=>match acel σ.tm a with
   |some (.loc nm off)=>some [(false,some nm,some (off,k))]
   |some (.eloc nm _ _ _)=>some [(false,some nm,none)]
   |some (.floc _ _ _ _)=>some [(false,none,none)]
   |_=>none
 | .st k a _=>match acel σ.tm a with
   |some (.loc nm off)=>some [(true,some nm,some (off,k))]
   |some (.eloc nm _ _ _)=>some [(true,some nm,none)]
   |_=>none
 | .ap _ _ _ x y=>match aaccX σ d x with
   |some l=>match acel σ.tm y with|some c=>some (app l (aaccC false c))|none=>none
   |none=>none
 | .aps _ _ x _=>aaccX σ d x
 | .apz _ _ _ _ x _=>aaccX σ d x
 | .b2s x=>match acel σ.tm x with|some c=>some (aaccC false c)|none=>none
 |_=>some []
noncomputable def alive (o:Option AO):Bool:=match o with|some (.X _ _)=>true|some (.M _ _ _ _)=>true|some (.F _ _ _ _ _)=>true|_=>false
noncomputable def lives (ob:List (Nat×AO)):List Nat:=List.rec [] (fun x _ ih=>Bool.rec ih (x.1::ih) (alive (findO x.1 ob))) ob
noncomputable def aptr (ads:List AD):Option (Option Nat):=
 match ads with
 | .one (.loc nm 0)::_=>some (some nm)
 | .one (.loc _ _)::_=>none
 | .one (.eloc _ _ _ _)::_=>none
 |_=>some none
noncomputable def aft (x:I) (σ:AS) (d:AD):Option AFt:=
 match x with
 | .call _ xs=>match each (aval σ.tm) xs with
   |some ads=>match aptr ads with|some p=>some (.call (lives σ.ob) p [])|none=>none
   |none=>none
 |i=>match afoot i σ d with|some l=>some (.acc l)|none=>none
noncomputable def lat1 (nm:Nat) (f:AFt):AFt:=match f with| .call live p lat=>.call live p (nm::lat)|f=>f
noncomputable def late (i:I) (d:AD) (ft:List AFt):List AFt:=
 match i,d with
 | .bsl _ _ _ _ _,.one (.own nm _ _)=>maps (lat1 nm) ft
 |_,_=>ft
noncomputable def afin1 (reg:Bool) (x:Ins) (σ:AS) (z:AD×AS):Option AS:=
 Bool.rec (some {z.2 with tm:=aput x.dst z.1 z.2.tm})
  (match aft x.op σ z.1 with|some f=>some {z.2 with tm:=aput x.dst z.1 z.2.tm,ft:=f::late x.op z.1 z.2.ft}|none=>none) reg
noncomputable def arun (X:Cx) (K:TypeId→Option (List Nat)) (ct:Nat→Option Con) (lev:Nat) (reg:Bool) (x:Ins) (σ:AS) (s:Scr):Option (List AS×Scr):=
 match aop X K ct lev x.op σ s with
 |some (l,s)=>match each (afin1 reg x σ) l with|some m=>some (m,s)|none=>none
 |none=>none
noncomputable def askip (reg:Bool) (x:Ins) (σ:AS) (s:Scr):Option (List AS×Scr):=
 some ([{σ with tm:=aput x.dst (.one .un) σ.tm,ft:=Bool.rec σ.ft (.acc []::σ.ft) reg}],s)
noncomputable def astep (X:Cx) (K:TypeId→Option (List Nat)) (ct:Nat→Option Con) (lev:Nat) (reg:Bool) (x:Ins) (σ:AS) (s:Scr):Option (List AS×Scr):=
 match x.gd with
 |none=>arun X K ct lev reg x σ s
 |some (p,want)=>match acel σ.tm (.t p)with
  |some (.bool b)=>asplit b σ s (fun σ s=>Bool.rec (askip reg x (aref (.t p) true σ) s) (arun X K ct lev reg x (aref (.t p) true σ) s) want)
    (fun σ s=>Bool.rec (arun X K ct lev reg x (aref (.t p) false σ) s) (askip reg x (aref (.t p) false σ) s) want)
  |some .un=>askip reg x σ s
  |_=>none
noncomputable def mapS {α β:Type} (f:α→Scr→Option (List β×Scr)) (l:List α):Scr→Option (List β×Scr):=
 List.rec (fun s=>some ([],s)) (fun x _ ih s=>match f x s with
  |some (m,s)=>match ih s with|some (m2,s)=>some (app m m2,s)|none=>none
  |none=>none) l
noncomputable def asteps (X:Cx) (K:TypeId→Option (List Nat)) (ct:Nat→Option Con) (lev:Nat) (reg:Bool) (l:List Ins):AS→Scr→Option (List AS×Scr):=
 List.rec (fun σ s=>some ([σ],s)) (fun x _ ih σ s=>match astep X K ct lev reg x σ s with
  |some (m,s)=>mapS ih m s
  |none=>none) l
theorem mapS_ok {α β:Type} {f:α→Scr→Option (List β×Scr)} {Q:α→Prop} {R:β→Prop} (hf:∀x s m s',Q x→f x s=some (m,s')→∃y∈m,R y):∀{l:List α} {s s':Scr} {m:List β},mapS f l s=some (m,s')→(∃x∈l,Q x)→∃y∈m,R y
 |[],s,s',m,h,⟨x,hx,_⟩=>by cases hx
 |z::l,s,s',m,h,⟨x,hx,hq⟩=>by
  have h:(match f z s with
   |some (m,s)=>match mapS f l s with|some (m2,s)=>some (app m m2,s)|none=>none
   |none=>none)=some (m,s'):=h
  split at h
  case h_2=>cases h
  rename_i m1 s1 h1
  split at h
  case h_2=>cases h
  rename_i m2 s2 h2
  cases h
  rw[app_eq]
  cases hx with
  |head=>
   obtain⟨y,hy,hr⟩:=hf _ _ _ _ hq h1;exact⟨y,List.mem_append_left _ hy,hr⟩
  |tail _ hx=>
   obtain⟨y,hy,hr⟩:=mapS_ok hf h2 ⟨x,hx,hq⟩;exact⟨y,List.mem_append_right _ hy,hr⟩
theorem each_mem {α β:Type} {f:α→Option β}:∀{l:List α} {m:List β},each f l=some m→∀x∈l,∃y∈m,f x=some y
 |[],m,h,x,hx=>by cases hx
 |a::l,m,h,x,hx=>by
  rw[each_cons]at h
  split at h
  ·rename_i y hy
   split at h
   ·rename_i ys hys
    cases h
    cases hx with
    |head=>exact⟨y,List.mem_cons_self,hy⟩
    |tail _ hx=>
     obtain⟨z,hz,e⟩:=each_mem hys x hx;exact⟨z,List.mem_cons_of_mem _ hz,e⟩
   ·cases h
  ·cases h
section
variable{X:Cx} {K:TypeId→Option (List Nat)} {ct:Nat→Option Con} {lev:Nat} {O2:Oracle2} {e:AEnv} {σ:AS} {g:GS}
theorem avals_all (hW:W X e σ g):∀{xs:List A} {ads:List AD},each (aval σ.tm) xs=some ads→∃ds,each (gval g.tm) xs=some ds∧∀e',Agr σ.nv e e'→Al (gaD X e') ads ds
 |[],ads,h=>by rw[each_nil]at h;cases h;exact⟨[],rfl,fun _ _=>.nil⟩
 |a::xs,ads,h=>by
  rw[each_cons]at h
  split at h
  ·rename_i d hd
   split at h
   ·rename_i ads' hds
    cases h
    obtain⟨d',h1,h2⟩:=vals_all hW hd;obtain⟨ds',h3,h4⟩:=avals_all hW hds;exact⟨d'::ds',by rw[each_cons,h1,h3],fun e' he=>.cons (h2 e' he) (h4 e' he)⟩
   ·cases h
  ·cases h
theorem aop_ok (hK:CmpOk X.P K) (hct:∀f con,ct f=some con→con.lev<lev→ConOk X O2 f con) (hW:W X e σ g) {i:I} {l:List (AD×AS)} {s s':Scr} (h:aop X K ct lev i σ s=some (l,s')):
 ∃d' hp',gop X.P O2 i g.tm g.hp=some (d',hp')∧∃z∈l,OpR X e σ g d' hp' z:=by
 cases i with
 |call f xs=>
  have h:(match each (aval σ.tm) xs with|some ads=>acall X ct lev f ads σ s|none=>none)=some (l,s'):=h
  split at h
  case h_2=>cases h
  rename_i ads ha;obtain⟨ds,h1,h2⟩:=avals_all hW ha;obtain⟨d',hp',h3,h4⟩:=acall_ok (fun con hc hl=>hct f con hc hl) hW h h2;exact⟨d',hp',by show(match each (gval g.tm) xs with|some ds=>gcall O2 f ds g.hp|none=>none)=_;rw[h1];exact h3,h4⟩
 |alloc a0 a1=>have h:ard1 X (.alloc a0 a1) σ s=some (l,s'):=h;exact ard1_ok hW h
 |box a0 a1 a2=>have h:ard1 X (.box a0 a1 a2) σ s=some (l,s'):=h;exact ard1_ok hW h
 |bsl a0 a1 a2 a3 a4=>have h:ard1 X (.bsl a0 a1 a2 a3 a4) σ s=some (l,s'):=h;exact ard1_ok hW h
 |mk a0 a1 a2 a3=>have h:ard1 X (.mk a0 a1 a2 a3) σ s=some (l,s'):=h;exact ard1_ok hW h
 |ld a0 a1 a2=>have h:ard1 X (.ld a0 a1 a2) σ s=some (l,s'):=h;exact ard1_ok hW h
 |st a0 a1 a2=>have h:ard1 X (.st a0 a1 a2) σ s=some (l,s'):=h;exact ard1_ok hW h
 |ias a0 a1 a2=>have h:ard1 X (.ias a0 a1 a2) σ s=some (l,s'):=h;exact ard1_ok hW h
 |s2b a0 a1=>have h:ard1 X (.s2b a0 a1) σ s=some (l,s'):=h;exact ard1_ok hW h
 |sl a0 a1 a2 a3=>have h:ard2 X (.sl a0 a1 a2 a3) σ s=some (l,s'):=h;exact ard2_ok hW h
 |ap a0 a1 a2 a3 a4=>have h:ard2 X (.ap a0 a1 a2 a3 a4) σ s=some (l,s'):=h;exact ard2_ok hW h
 |aps a0 a1 a2 a3=>have h:ard2 X (.aps a0 a1 a2 a3) σ s=some (l,s'):=h;exact ard2_ok hW h
 |apz a0 a1 a2 a3 a4 a5=>have h:ard2 X (.apz a0 a1 a2 a3 a4 a5) σ s=some (l,s'):=h;exact ard2_ok hW h
 |b2s a0=>have h:ard2 X (.b2s a0) σ s=some (l,s'):=h;exact ard2_ok hW h
 |mv a0=>have h:ard0 X K (.mv a0) σ s=some (l,s'):=h;exact ard0_ok hK hW h
 |pick a0 a1 a2=>have h:ard0 X K (.pick a0 a1 a2) σ s=some (l,s'):=h;exact ard0_ok hK hW h
 |bld a0 a1=>have h:ard0 X K (.bld a0 a1) σ s=some (l,s'):=h;exact ard0_ok hK hW h
 |nilc a0=>have h:ard0 X K (.nilc a0) σ s=some (l,s'):=h;exact ard0_ok hK hW h
 |fa a0 a1=>have h:ard0 X K (.fa a0 a1) σ s=some (l,s'):=h;exact ard0_ok hK hW h
 |fd a0 a1 a2 a3=>have h:ard0 X K (.fd a0 a1 a2 a3) σ s=some (l,s'):=h;exact ard0_ok hK hW h
 |iaa a0 a1 a2 a3=>have h:ard0 X K (.iaa a0 a1 a2 a3) σ s=some (l,s'):=h;exact ard0_ok hK hW h
 |ixs a0 a1=>have h:ard0 X K (.ixs a0 a1) σ s=some (l,s'):=h;exact ard0_ok hK hW h
 |sls a0 a1 a2=>have h:ard0 X K (.sls a0 a1 a2) σ s=some (l,s'):=h;exact ard0_ok hK hW h
 |ex a0 a1=>have h:ard0 X K (.ex a0 a1) σ s=some (l,s'):=h;exact ard0_ok hK hW h
 |len a0 a1=>have h:ard0 X K (.len a0 a1) σ s=some (l,s'):=h;exact ard0_ok hK hW h
 |bin a0 a1 a2 a3=>have h:ard0 X K (.bin a0 a1 a2 a3) σ s=some (l,s'):=h;exact ard0_ok hK hW h
 |beq a0 a1=>have h:ard0 X K (.beq a0 a1) σ s=some (l,s'):=h;exact ard0_ok hK hW h
 |not a0=>have h:ard0 X K (.not a0) σ s=some (l,s'):=h;exact ard0_ok hK hW h
 |neg a0=>have h:ard0 X K (.neg a0) σ s=some (l,s'):=h;exact ard0_ok hK hW h
 |cvi a0 a1=>have h:ard0 X K (.cvi a0 a1) σ s=some (l,s'):=h;exact ard0_ok hK hW h
 |cvf a0=>have h:ard0 X K (.cvf a0) σ s=some (l,s'):=h;exact ard0_ok hK hW h
 |mn a0 a1=>have h:ard0 X K (.mn a0 a1) σ s=some (l,s'):=h;exact ard0_ok hK hW h
 |mx a0 a1=>have h:ard0 X K (.mx a0 a1) σ s=some (l,s'):=h;exact ard0_ok hK hW h
def AccR (e:AEnv) (y:AAc) (x:Acc2):Prop:=
 y.1=x.1∧match y.2.1,x.2.1 with
  |some nm,some i=>e.on nm=true∧e.ν nm=i∧(y.2.2=none∨y.2.2=x.2.2)
  |none,none=>True
  |_,_=>False
def PtrM (e:AEnv) (p q:Option Nat):Prop:=match p,q with|some nm,some i=>e.on nm=true∧e.ν nm=i|none,none=>True|_,_=>False
def FtR (e:AEnv) (f:AFt) (f':Ft2):Prop:=
 match f,f' with
 | .acc al,.acc l=>∀x∈l,∃y∈al,AccR e y x
 | .call live p lat,.call h0 n1 q=>((∀nm∈live,e.on nm=true→∃e0 fr cs,h0[e.ν nm]?=some (.ob e0 fr cs))∧PtrM e p q)∧∀nm∈lat,e.on nm=true→n1≤e.ν nm
 |_,_=>False
theorem aaccC_ok {w:Bool} {c:AC} {x:G} (h:gaC X e c x):∀y∈gaccG w x,∃z∈aaccC w c,AccR e z y:=by
 intro y hy
 cases c with
 |own nm k n=>
  rcases h with⟨h1,m,h2,rfl⟩|⟨h1,rfl,_⟩
  ·have hy:y∈[((w,some (e.ν nm),none):Acc2)]:=hy
   rw[List.mem_singleton]at hy;subst hy;exact⟨_,List.mem_singleton.2 rfl,rfl,h1,rfl,.inl rfl⟩
  ·cases hy
 |sl t ps n nm=>
  rcases h with⟨rfl,_⟩|⟨k,m,rfl,_⟩
  ·cases hy
  ·have hy:y∈[((w,none,none):Acc2)]:=hy
   rw[List.mem_singleton]at hy;subst hy;exact⟨_,List.mem_singleton.2 rfl,rfl,trivial⟩
 |int k x=>have h:_=_:=h;subst h;cases hy
 |bool b=>have h:_=_:=h;subst h;cases hy
 |str x=>obtain⟨l,rfl,_⟩:=h;cases hy
 |un=>have h:_=_:=h;subst h;cases hy
 |np=>have h:_=_:=h;subst h;cases hy
 |nil=>have h:_=_:=h;subst h;cases hy
 |loc nm off=>obtain⟨_,rfl⟩:=h;cases hy
 |eloc nm k n off=>obtain⟨_,j,_,rfl⟩:=h;cases hy
 |floc nm ix k off=>obtain⟨j,_,rfl⟩:=h;cases hy
theorem newE_ok {d:AD} {n:Nat} {nw:Bool} {d':GD} (h:gaD X e d d') (hn:nw=true→(∃k m,d'=.one (.own n k m))∨∃o,d'=.one (.loc n o)):∀y∈gnewE n nw,∃z∈anewE d,AccR e z y:=by
 intro y hy
 cases nw with
 |false=>cases hy
 |true=>
  have hy:y∈[((true,some n,none):Acc2)]:=hy;rw[List.mem_singleton]at hy;subst hy;rcases hn rfl with⟨k,m,rfl⟩|⟨o,rfl⟩
  ·cases d with
   |ag _=>exact h.elim
   |tup _=>exact h.elim
   |top=>exact h.elim
   |one c=>
    have h:gaC X e c (.own n k m):=h
    cases c with
    |own nm k' n'=>
     rcases h with⟨h1,m',h2,h3⟩|⟨h1,h3,_⟩
     ·cases h3;exact⟨_,List.mem_singleton.2 rfl,rfl,h1,rfl,.inl rfl⟩
     ·cases h3
    |sl t ps n nm=>rcases h with⟨h,_⟩|⟨_,_,h,_⟩<;>cases h
    |int k x=>cases h
    |bool b=>cases h
    |str x=>obtain⟨l,h,_⟩:=h;cases h
    |un=>cases h
    |np=>cases h
    |nil=>cases h
    |loc nm off=>obtain⟨_,h⟩:=h;cases h
    |eloc nm k n off=>obtain⟨_,j,_,h⟩:=h;cases h
    |floc nm ix k off=>obtain⟨j,_,h⟩:=h;cases h
  ·cases d with
   |ag _=>exact h.elim
   |tup _=>exact h.elim
   |top=>exact h.elim
   |one c=>
    have h:gaC X e c (.loc n o):=h
    cases c with
    |own nm k' n'=>rcases h with⟨h1,m',h2,h3⟩|⟨h1,h3,_⟩<;>cases h3
    |sl t ps n nm=>rcases h with⟨h,_⟩|⟨_,_,h,_⟩<;>cases h
    |int k x=>cases h
    |bool b=>cases h
    |str x=>obtain⟨l,h,_⟩:=h;cases h
    |un=>cases h
    |np=>cases h
    |nil=>cases h
    |loc nm off=>obtain⟨h1,h⟩:=h;cases h;exact⟨_,List.mem_singleton.2 rfl,rfl,h1,rfl,.inl rfl⟩
    |eloc nm k n off=>obtain⟨h1,j,_,h⟩:=h;cases h;exact⟨_,List.mem_singleton.2 rfl,rfl,h1,rfl,.inl rfl⟩
    |floc nm ix k off=>obtain⟨j,_,h⟩:=h;cases h
end
end Go.Proofs.YtiahijhpjloijaaGreat.V

namespace Go.Proofs.YtiahijhpjloijaaGreat.V
open Go
noncomputable def gftop (i:I) (tm:Tr GD) (hp hp':List GO):Ft2:=
 match i with
 | .call _ xs=>match each (gval tm) xs with
   |some ds=>.call hp (len hp') (gptr ds)
   |none=>.acc []
 |op=>.acc (gfoot (len hp) (Nat.ble (Nat.succ (len hp)) (len hp')) op tm)
theorem gft_run {x:Ins} {s s':GS} (h:gguard x.gd s.tm=.run):gft x s s'=gftop x.op s.tm s.hp s'.hp:=by
 obtain⟨dst,gd,r,fr,op⟩:=x;unfold gft;rw[h]
 cases op<;>rfl
theorem gft_skip {x:Ins} {s s':GS} (h:gguard x.gd s.tm=.skip):gft x s s'=.acc []:=by
 unfold gft;rw[h]
theorem gstep1_run {P:Program} {O:Oracle2} {x:Ins} {s:GS} (h:gguard x.gd s.tm=.run) {d:GD} {hp:List GO} (hg:gop P O x.op s.tm s.hp=some (d,hp)):gstep1 P O x s=some ({tm:=gput x.dst d s.tm,hp:=hp}:GS):=by
 obtain⟨dst,gd,r,fr,op⟩:=x;unfold gstep1;rw[h]
 cases op
 case call f xs=>
  have hg:(match each (gval s.tm) xs with|some ds=>gcall O f ds s.hp|none=>none)=some (d,hp):=hg;show(match each (gval s.tm) xs with
   |some ds=>match gcall O f ds s.hp with
    |some (d,hp)=>some ({tm:=gput dst d s.tm,hp:=hp}:GS)
    |none=>none
   |none=>none)=_
  split at hg
  ·rename_i ds hds;rw[hg]
  ·cases hg
 all_goals
  simp only[gop]at hg;simp only[hg]
theorem gstep1_skip {P:Program} {O:Oracle2} {x:Ins} {s:GS} (h:gguard x.gd s.tm=.skip):gstep1 P O x s=some ({s with tm:=gput x.dst (.one (.v .un)) s.tm}:GS):=by
 unfold gstep1;rw[h]
theorem gnew_len (hp:List GO) (e:Nat) (cs:List G):(gnew hp e cs).length=hp.length+1:=by
 unfold gnew;rw[app_eq,List.length_append];rfl
theorem frs_len {f:List GO→G→Option (List GO×U)} (hf:∀hp g hp' u,f hp g=some (hp',u)→hp'.length=hp.length):∀{cs:List G} {hp hp':List GO} {us:List U},frs f cs hp=some (hp',us)→hp'.length=hp.length
 |[],hp,hp',us,h=>by
  have h:some (hp,([]:List U))=some (hp',us):=h
  cases h;rfl
 |c::cs,hp,hp',us,h=>by
  have h:(match f hp c with
   |some (hp,u)=>match frs f cs hp with|some (hp,us)=>some (hp,u::us)|none=>none
   |none=>none)=some (hp',us):=h
  split at h
  ·rename_i hp1 u h1
   split at h
   ·rename_i hp2 us2 h2
    cases h
    exact(frs_len hf h2).trans (hf _ _ _ _ h1)
   ·cases h
  ·cases h
theorem frz_len:∀(n:Nat) (hp:List GO) (g:G) (hp':List GO) (u:U),frz n hp g=some (hp',u)→hp'.length=hp.length
 |0,hp,g,hp',u,h=>by cases h
 |n+1,hp,g,hp',u,h=>by
  have h:(match(generalizing:=false) g with
   | .v u=>some (hp,u)
   | .own i k m=>match nth hp i with
     |some (.ob e fr cs)=>match frs (frz n) cs hp with
      |some (hp',us)=>match nth hp' i with
       |some (.ob e' fr' _)=>(Bool.rec none (some (setO hp' i (.ob e' true (mapsV us)),.fz k m us)) (Bool.rec false (Nat.beq e e') (Nat.beq (len us) (m*k)):Bool):Option (List GO×U))
       |_=>none
      |none=>none
     |_=>none
   |_=>none)=some (hp',u):=h
  split at h
  ·cases h;rfl
  ·split at h
   ·split at h
    ·rename_i hp1 us h1
     split at h
     ·rw[brec']at h
      split at h
      ·cases h
       rw[setO_len];exact frs_len (frz_len n) h1
      ·cases h
     ·cases h
    ·cases h
   ·cases h
  ·cases h
theorem gpure_len:∀{ds:List GD} {hp hp':List GO} {ds':List GD},gpure ds hp=some (hp',ds')→hp'.length=hp.length
 |[],hp,hp',ds',h=>by
  have h:some (hp,([]:List GD))=some (hp',ds'):=h
  cases h;rfl
 | .one g::t,hp,hp',ds',h=>by
   have h:(match frz 8 hp g with
    |some (hp,u)=>match gpure t hp with|some (hp,ds)=>some (hp,GD.one (.v u)::ds)|none=>none
    |none=>none)=some (hp',ds'):=h
   split at h
   ·rename_i h1
    split at h
    ·rename_i h2;cases h;exact(gpure_len h2).trans (frz_len _ _ _ _ _ h1)
    ·cases h
   ·cases h
 | .ag l::t,hp,hp',ds',h=>by
   have h:(match frs (frz 8) l hp with
    |some (hp,us)=>match gpure t hp with|some (hp,ds)=>some (hp,GD.ag (mapsV us)::ds)|none=>none
    |none=>none)=some (hp',ds'):=h
   split at h
   ·rename_i h1
    split at h
    ·rename_i h2;cases h;exact(gpure_len h2).trans (frs_len (frz_len _) h1)
    ·cases h
   ·cases h
 | .tup _::t,hp,hp',ds',h=>by cases h
theorem gargs_len {ds:List GD} {hp hp1:List GO} {ds1:List GD} {ptr:Option Nat} {H0:List GO} (h:gargs hp ds=some (hp1,ds1,ptr,H0)):hp1.length=hp.length:=by
 unfold gargs at h
 split at h
 ·split at h
  ·split at h
   ·rename_i h1
    split at h
    ·split at h
     ·rename_i h2
      split at h
      ·cases h
       rw[gpure_len h2,setO_len];exact frs_len (frz_len _) h1
      ·cases h
     ·cases h
    ·cases h
   ·cases h
  ·cases h
 ·split at h
  ·rename_i h1;cases h;exact gpure_len h1
  ·cases h
theorem gback_len {hp1 hp':List GO} {ptr:Option Nat} {d d':GD} {H':List GO} (h:gback hp1 ptr d H'=some (d',hp')):hp1.length≤hp'.length:=by
 unfold gback at h
 split at h
 ·cases h;rw[app_eq,List.length_append,setO_len];omega
 ·cases h
 ·cases h;rw[app_eq,List.length_append];omega
theorem gcall_len {O2:Oracle2} {f:Nat} {ds:List GD} {hp hp':List GO} {d':GD} (h:gcall O2 f ds hp=some (d',hp')):hp.length≤hp'.length:=by
 unfold gcall at h
 split at h
 ·rename_i h1
  split at h
  ·rw[←gargs_len h1];exact gback_len h
  ·cases h
 ·cases h
theorem ggrow_len {hp hp':List GO} {e k b m:Nat} {x:G} {cs:List G} {d':GD} (h:ggrow hp e k b x m cs=some (d',hp')):hp.length≤hp'.length:=by
 unfold ggrow at h
 split at h
 ·split at h
  ·rw[brec']at h
   split at h
   ·cases h;rw[gnew_len,setO_len];omega
   ·cases h
  ·cases h
 ·split at h
  ·cases h;exact Nat.le_refl _
  ·rw[brec']at h
   split at h
   ·cases h;rw[gnew_len];omega
   ·cases h
 ·cases h
theorem brecN {α:Type} {b:Bool} {x:Option α} {y:α} (h:(Bool.rec none x b:Option α)=some y):x=some y:=by cases b<;>first|exact h|cases h
theorem s1_len {c:C} {hp hp':List GO} {d:GD} (h:s1 c hp=some (d,hp')):hp.length≤hp'.length:=by
 unfold s1 at h
 split at h
 ·cases h;exact Nat.le_refl _
 ·cases h
theorem grd_len {P:Program} {i:I} {tm:Tr GD} {hp hp':List GO} {d:GD} (h:grd P i tm hp=some (d,hp')):hp.length≤hp'.length:=by
 cases i<;>simp only[grd]at h<;>
  (repeat'(first|(split at h)|(replace h:=brecN h)))<;>
  first
  |(cases h;done)
  |(cases h;exact Nat.le_refl _)
  |(cases h;rw[gnew_len];omega)
  |(cases h;rw[setO_len];exact Nat.le_refl _)
  |exact ggrow_len h
  |exact s1_len h
  |(cases h;rename_i hf _ _;exact Nat.le_of_eq (frz_len _ _ _ _ _ hf).symm)
  |(cases h;exact Nat.le_of_eq (frz_len _ _ _ _ _ (by assumption)).symm)
  |trace_state
theorem gstep1_len {P:Program} {O:Oracle2} {x:Ins} {s s':GS} (h:gstep1 P O x s=some s'):s.hp.length≤s'.hp.length:=by
 unfold gstep1 at h
 split at h
 ·cases h;exact Nat.le_refl _
 ·cases h
 ·split at h
  ·split at h
   ·split at h
    ·rename_i hc;cases h;exact gcall_len hc
    ·cases h
   ·cases h
  ·split at h
   ·rename_i hr;cases h;exact grd_len hr
   ·cases h
def newd (n:Nat) (d':GD):Prop:=(∃k m,d'=.one (.own n k m))∨∃o,d'=.one (.loc n o)
theorem ggrow_new {hp hp':List GO} {e k b m:Nat} {x:G} {cs:List G} {d':GD} (h:ggrow hp e k b x m cs=some (d',hp')) (hn:Nat.ble (Nat.succ (len hp)) (len hp')=true):newd (len hp) d':=by
 unfold ggrow at h
 split at h
 ·split at h
  ·rw[brec']at h
   split at h
   ·cases h;exact .inl ⟨_,_,rfl⟩
   ·cases h
  ·cases h
 ·split at h
  ·cases h;rw[ble_iff]at hn;omega
  ·rw[brec']at h
   split at h
   ·cases h;exact .inl ⟨_,_,rfl⟩
   ·cases h
 ·cases h
theorem lives_mem {ob:List (Nat×AO)} {nm:Nat}:∀{l:List (Nat×AO)},nm∈(List.rec [] (fun x _ ih=>Bool.rec ih (x.1::ih) (alive (findO x.1 ob))) l:List Nat)→alive (findO nm ob)=true
 |[],h=>by cases h
 |x::l,h=>by
  have h:nm∈(Bool.rec (List.rec [] (fun x _ ih=>Bool.rec ih (x.1::ih) (alive (findO x.1 ob))) l) (x.1::(List.rec [] (fun x _ ih=>Bool.rec ih (x.1::ih) (alive (findO x.1 ob))) l)) (alive (findO x.1 ob)):List Nat):=h;rw[brec']at h
  split at h
  ·rename_i ha
   cases h with
   |head=>exact ha
   |tail _ h=>exact lives_mem h
  ·exact lives_mem h
section
variable{X:Cx} {K:TypeId→Option (List Nat)} {ct:Nat→Option Con} {lev:Nat} {O2:Oracle2} {e e':AEnv} {σ:AS} {g:GS}
theorem aaccX_ok (hW:W X e σ g) (he:Agr σ.nv e e') {d:AD} {d':GD} (hd:gaD X e' d d') {x:A} {al:List AAc} (h:aaccX σ d x=some al) {n:Nat} {nw:Bool} (hn:nw=true→newd n d'):∀y∈gaccX n nw g.tm x,∃z∈al,AccR e' z y:=by
 unfold aaccX at h
 split at h
 case h_2=>cases h
 rename_i c hc
 cases h
 obtain⟨x',h1,h2⟩:=cels_all hW hc;intro y hy;unfold gaccX at hy;rw[h1,app_eq]at hy;rw[app_eq];rcases List.mem_append.1 hy with hy|hy
 ·obtain⟨z,hz,r⟩:=newE_ok hd hn y hy;exact⟨z,List.mem_append_left _ hz,r⟩
 ·obtain⟨z,hz,r⟩:=aaccC_ok (h2 e' he) y hy;exact⟨z,List.mem_append_right _ hz,r⟩
theorem one_acc {y:Acc2} {z:AAc} (h:AccR e' z y):∀x∈[y],∃w∈[z],AccR e' w x:=fun x hx=>by
 rw[List.mem_singleton]at hx;subst hx;exact⟨z,List.mem_singleton.2 rfl,h⟩
theorem aptr_ok {ads:List AD} {ds:List GD} {p:Option Nat} (h:aptr ads=some p) (hd:Al (gaD X e') ads ds):PtrM e' p (gptr ds):=by
 cases hd with
 |nil=>cases h;trivial
 |@cons a b ads ds h1 h2=>
  cases a with
  |ag l=>cases b with
   |one _=>exact h1.elim
   |tup _=>exact h1.elim
   |ag _=>cases h;trivial
  |tup l=>cases b with
   |one _=>exact h1.elim
   |ag _=>exact h1.elim
   |tup _=>cases h;trivial
  |top=>exact h1.elim
  |one c=>
   cases b with
   |ag _=>exact h1.elim
   |tup _=>exact h1.elim
   |one y=>
    have h1:gaC X e' c y:=h1
    cases c with
    |own nm k n=>cases h;rcases h1 with⟨_,m,_,rfl⟩|⟨_,rfl,_⟩<;>trivial
    |sl t ps n nm=>cases h;rcases h1 with⟨rfl,_⟩|⟨k,m,rfl,_⟩<;>trivial
    |int k x=>cases h;have h1:_=_:=h1;subst h1;trivial
    |bool b=>cases h;have h1:_=_:=h1;subst h1;trivial
    |str x=>cases h;obtain⟨l,rfl,_⟩:=h1;trivial
    |un=>cases h;have h1:_=_:=h1;subst h1;trivial
    |np=>cases h;have h1:_=_:=h1;subst h1;trivial
    |nil=>cases h;have h1:_=_:=h1;subst h1;trivial
    |loc nm off=>
     obtain⟨h0,rfl⟩:=h1
     cases off with
     |zero=>cases h;exact⟨h0,rfl⟩
     |succ n=>cases h
    |eloc nm k n off=>cases h
    |floc nm ix k off=>cases h;obtain⟨j,_,rfl⟩:=h1;trivial
theorem aft_ok (hW:W X e σ g) {i:I} {d:AD} {d':GD} {hp':List GO} {f:AFt} (hg:gop X.P O2 i g.tm g.hp=some (d',hp')) (h:aft i σ d=some f) (he:Agr σ.nv e e') (hd:gaD X e' d d'):FtR e' f (gftop i g.tm g.hp hp'):=by
 have acc:∀{l:List Acc2},(∃al,f=.acc al∧∀y∈l,∃z∈al,AccR e' z y)→FtR e' f (.acc l):=by
  rintro l ⟨al,rfl,hal⟩;exact hal
 have some1:∀{o:Option (List AAc)},(match o with|some l=>some (.acc l)|none=>none)=some f→∃al,o=some al∧f=.acc al:=by
  intro o ho
  cases o with
  |none=>cases ho
  |some al=>cases ho;exact⟨al,rfl,rfl⟩
 have emp:(match(some []:Option (List AAc))with|some l=>some (AFt.acc l)|none=>none)=some f→FtR e' f (.acc []):=by
  intro h;cases h;intro y hy;cases hy
 cases i with
 |call fn xs=>
  have h:(match each (aval σ.tm) xs with
   |some ads=>match aptr ads with|some p=>some (.call (lives σ.ob) p [])|none=>none
   |none=>none)=some f:=h
  split at h
  case h_2=>cases h
  rename_i ads ha
  split at h
  case h_2=>cases h
  rename_i p hp
  cases h
  obtain⟨ds,h1,h2⟩:=avals_all hW ha;show FtR e' _ (match each (gval g.tm) xs with|some ds=>.call g.hp (len hp') (gptr ds)|none=>.acc []);rw[h1];refine⟨⟨fun nm hm hon=>?_,aptr_ok hp (h2 e' he)⟩,fun nm hm=>by cases hm⟩;have hl:=lives_mem hm
  cases hf:findO nm σ.ob with
  |none=>rw[hf]at hl;cases hl
  |some ao=>
   obtain⟨o,k1,k2⟩:=(hW e' he).ob nm ao hf hon;rw[hf]at hl
   cases ao with
   |dead=>cases hl
   |X e0 cs=>obtain⟨gs,rfl,_⟩:=k2;exact⟨_,_,_,k1⟩
   |M e0 t ps n=>obtain⟨us,k,m,rfl,_⟩:=k2;exact⟨_,_,_,k1⟩
   |F e0 t ps n nm2=>obtain⟨k,m,rfl,_⟩:=k2;exact⟨_,_,_,k1⟩
 |alloc e0 zs=>
  obtain⟨al,h1,h2⟩:=some1 (o:=afoot (.alloc e0 zs) σ d) h;have h1:some (anewE d)=some al:=h1
  cases h1
  refine acc ⟨_,h2,newE_ok hd fun hn=>?_⟩;have hg:grd X.P (.alloc e0 zs) g.tm g.hp=some (d',hp'):=hg;simp only[grd]at hg
  split at hg
  ·cases hg;exact .inr ⟨_,rfl⟩
  ·cases hg
 |box e0 k x=>
  obtain⟨al,h1,h2⟩:=some1 (o:=afoot (.box e0 k x) σ d) h;have h1:some (anewE d)=some al:=h1
  cases h1
  refine acc ⟨_,h2,newE_ok hd fun hn=>?_⟩;have hg:grd X.P (.box e0 k x) g.tm g.hp=some (d',hp'):=hg;simp only[grd]at hg
  split at hg
  ·rw[brec']at hg
   split at hg
   ·cases hg;exact .inr ⟨_,rfl⟩
   ·cases hg
  ·cases hg
 |bsl e0 k n zs ps=>
  obtain⟨al,h1,h2⟩:=some1 (o:=afoot (.bsl e0 k n zs ps) σ d) h;have h1:some (anewE d)=some al:=h1
  cases h1
  refine acc ⟨_,h2,newE_ok hd fun hn=>?_⟩;have hg:grd X.P (.bsl e0 k n zs ps) g.tm g.hp=some (d',hp'):=hg;simp only[grd]at hg
  split at hg
  ·split at hg
   ·cases hg;exact .inl ⟨_,_,rfl⟩
   ·cases hg
  ·cases hg
 |mk e0 k n zs=>
  obtain⟨al,h1,h2⟩:=some1 (o:=afoot (.mk e0 k n zs) σ d) h;have h1:some (anewE d)=some al:=h1
  cases h1
  refine acc ⟨_,h2,newE_ok hd fun hn=>?_⟩;have hg:grd X.P (.mk e0 k n zs) g.tm g.hp=some (d',hp'):=hg;simp only[grd]at hg
  split at hg
  ·cases hg;exact .inl ⟨_,_,rfl⟩
  ·cases hg
 |s2b e0 x=>
  obtain⟨al,h1,h2⟩:=some1 (o:=afoot (.s2b e0 x) σ d) h;have h1:some (anewE d)=some al:=h1
  cases h1
  refine acc ⟨_,h2,newE_ok hd fun hn=>?_⟩;have hg:grd X.P (.s2b e0 x) g.tm g.hp=some (d',hp'):=hg;simp only[grd]at hg
  split at hg
  ·cases hg;exact .inl ⟨_,_,rfl⟩
  ·cases hg
 |ld k ag a=>
  obtain⟨al,h1,h2⟩:=some1 (o:=afoot (.ld k ag a) σ d) h;refine acc ⟨al,h2,?_⟩;have h1:(match acel σ.tm a with
   |some (.loc nm off)=>some [(false,some nm,some (off,k))]
   |some (.eloc nm _ _ _)=>some [(false,some nm,none)]
   |some (.floc _ _ _ _)=>some [(false,none,none)]
   |_=>none)=some al:=h1
  show∀y∈(match gcel g.tm a with|some (.loc i off)=>[(false,some i,some (off,k))]|some (.floc _ _)=>[(false,none,none)]|_=>[]),_
  split at h1
  ·rename_i nm off hc
   obtain⟨x',k1,k2⟩:=cels_all hW hc;obtain⟨k3,rfl⟩:=k2 e' he
   cases h1
   rw[k1];exact one_acc ⟨rfl,k3,rfl,.inr rfl⟩
  ·rename_i nm _ _ _ hc
   obtain⟨x',k1,k2⟩:=cels_all hW hc;obtain⟨k3,j,_,rfl⟩:=k2 e' he
   cases h1
   rw[k1];exact one_acc ⟨rfl,k3,rfl,.inl rfl⟩
  ·rename_i hc
   obtain⟨x',k1,k2⟩:=cels_all hW hc;obtain⟨j,_,rfl⟩:=k2 e' he
   cases h1
   rw[k1];exact one_acc ⟨rfl,trivial⟩
  ·cases h1
 |st k a x=>
  obtain⟨al,h1,h2⟩:=some1 (o:=afoot (.st k a x) σ d) h;refine acc ⟨al,h2,?_⟩;have h1:(match acel σ.tm a with
   |some (.loc nm off)=>some [(true,some nm,some (off,k))]
   |some (.eloc nm _ _ _)=>some [(true,some nm,none)]
   |_=>none)=some al:=h1
  show∀y∈(match gcel g.tm a with|some (.loc i off)=>[(true,some i,some (off,k))]|_=>[]),_
  split at h1
  ·rename_i nm off hc
   obtain⟨x',k1,k2⟩:=cels_all hW hc;obtain⟨k3,rfl⟩:=k2 e' he
   cases h1
   rw[k1];exact one_acc ⟨rfl,k3,rfl,.inr rfl⟩
  ·rename_i nm _ _ _ hc
   obtain⟨x',k1,k2⟩:=cels_all hW hc;obtain⟨k3,j,_,rfl⟩:=k2 e' he
   cases h1
   rw[k1];exact one_acc ⟨rfl,k3,rfl,.inl rfl⟩
  ·cases h1
 |ap e0 k b x y=>
  obtain⟨al,h1,h2⟩:=some1 (o:=afoot (.ap e0 k b x y) σ d) h;refine acc ⟨al,h2,?_⟩;have h1:(match aaccX σ d x with
   |some l=>match acel σ.tm y with|some c=>some (app l (aaccC false c))|none=>none
   |none=>none)=some al:=h1
  split at h1
  case h_2=>cases h1
  rename_i l hl
  split at h1
  case h_2=>cases h1
  rename_i c hc
  cases h1
  have hg:grd X.P (.ap e0 k b x y) g.tm g.hp=some (d',hp'):=hg;simp only[grd]at hg
  split at hg
  case h_2=>cases hg
  split at hg
  case h_2=>cases hg
  rw[brec']at hg
  split at hg
  case isFalse=>cases hg
  intro z hz;have hz:z∈app (gaccX (len g.hp) (Nat.ble (Nat.succ (len g.hp)) (len hp')) g.tm x) (gaccY g.tm y):=hz;rw[app_eq]at hz⊢;rcases List.mem_append.1 hz with hz|hz
  ·obtain⟨w,hw,r⟩:=aaccX_ok hW he hd hl (fun hn=>ggrow_new hg hn) z hz
   exact⟨w,List.mem_append_left _ hw,r⟩
  ·obtain⟨y',k1,k2⟩:=cels_all hW hc
   unfold gaccY at hz;rw[k1]at hz;obtain⟨w,hw,r⟩:=aaccC_ok (k2 e' he) z hz;exact⟨w,List.mem_append_right _ hw,r⟩
 |aps e0 b x y=>
  obtain⟨al,h1,h2⟩:=some1 (o:=afoot (.aps e0 b x y) σ d) h;have hg:grd X.P (.aps e0 b x y) g.tm g.hp=some (d',hp'):=hg;simp only[grd]at hg
  split at hg
  case h_2=>cases hg
  exact acc ⟨al,h2,aaccX_ok hW he hd h1 fun hn=>ggrow_new hg hn⟩
 |apz e0 k b zs x y=>
  obtain⟨al,h1,h2⟩:=some1 (o:=afoot (.apz e0 k b zs x y) σ d) h;have hg:grd X.P (.apz e0 k b zs x y) g.tm g.hp=some (d',hp'):=hg;simp only[grd]at hg
  split at hg
  case h_2=>cases hg
  split at hg
  case h_2=>cases hg
  rw[brec']at hg
  split at hg
  case isFalse=>cases hg
  exact acc ⟨al,h2,aaccX_ok hW he hd h1 fun hn=>ggrow_new hg hn⟩
 |b2s x=>
  obtain⟨al,h1,h2⟩:=some1 (o:=afoot (.b2s x) σ d) h;have h1:(match acel σ.tm x with|some c=>some (aaccC false c)|none=>none)=some al:=h1
  split at h1
  case h_2=>cases h1
  rename_i c hc
  cases h1
  refine acc ⟨_,h2,?_⟩;obtain⟨y',k1,k2⟩:=cels_all hW hc;intro z hz;have hz:z∈gaccY g.tm x:=hz;unfold gaccY at hz;rw[k1]at hz;exact aaccC_ok (k2 e' he) z hz
 |_=>exact emp h
end
end Go.Proofs.YtiahijhpjloijaaGreat.V

namespace Go.Proofs.YtiahijhpjloijaaGreat.V
open Go
structure WF (X:Cx) (reg:Bool) (e:AEnv) (σ:AS) (g:GS) (fs:List Ft2):Prop where
 w:W X e σ g
 ft:reg=true→(∀e',Agr σ.nv e e'→Al (FtR e') σ.ft fs)∧∀h0 n1 ptr,Ft2.call h0 n1 ptr∈fs→n1≤g.hp.length
section
variable{X:Cx} {K:TypeId→Option (List Nat)} {ct:Nat→Option Con} {lev:Nat} {O2:Oracle2} {e:AEnv} {σ:AS} {g:GS} {reg:Bool} {fs:List Ft2}
theorem WF.same {σ':AS} (h:WF X reg e σ g fs) (hw:W X e σ' g) (hn:σ'.nv=σ.nv) (hf:σ'.ft=σ.ft):WF X reg e σ' g fs:=
 ⟨hw,fun hr=>⟨fun e' he=>by rw[hf];exact(h.ft hr).1 e' (by rw[hn]at he;exact he),(h.ft hr).2⟩⟩
def NF (X:Cx) (reg:Bool) (e:AEnv) (n:Nat) (σ':AS) (g':GS) (fs':List Ft2):Prop:=n≤σ'.nv∧∃e1,Agr n e e1∧WF X reg e1 σ' g' fs'
theorem late_ok {e':AEnv} {i:I} {d:AD} {d':GD} {tm:Tr GD} {hp hp':List GO} (hg:grd X.P i tm hp=some (d',hp')∨∃f xs,i=.call f xs) (hd:gaD X e' d d'):∀{ft:List AFt} {fs:List Ft2},Al (FtR e') ft fs→(∀h0 n1 ptr,Ft2.call h0 n1 ptr∈fs→n1≤hp.length)→Al (FtR e') (late i d ft) fs:=by
 intro ft fs ha hle;unfold late
 split
 ·rename_i e0 k n zs ps nm k1 n1
  rcases hg with hg|⟨f,xs,hf⟩
  ·simp only[grd]at hg
   have hnew:e'.on nm=true→e'.ν nm=hp.length:=by
    intro hon
    split at hg
    ·split at hg
     ·cases hg
      rcases hd with⟨_,m,_,h2⟩|⟨h1,_⟩
      ·injection h2 with h2 _;rw[←h2,len_eq]
      ·rw[hon]at h1;cases h1
     ·cases hg
    ·cases hg
   rw[maps_eq];clear hg hd
   induction ha with
   |nil=>exact .nil
   |@cons f f' ft fs h1 h2 ih=>
    refine .cons ?_ (ih fun h0 n1 ptr hm=>hle h0 n1 ptr (List.mem_cons_of_mem _ hm))
    cases f with
    |acc l=>exact h1
    |call live p lat=>
     cases f' with
     |acc _=>exact h1.elim
     |call h0 n2 q=>
      refine⟨h1.1,fun z hz hon=>?_⟩
      cases hz with
      |head=>rw[hnew hon];exact hle h0 n2 q List.mem_cons_self
      |tail _ hz=>exact h1.2 z hz hon
  ·cases hf
 ·exact ha
theorem gop_grd {i:I} {tm:Tr GD} {hp hp':List GO} {d':GD} (h:gop X.P O2 i tm hp=some (d',hp')):grd X.P i tm hp=some (d',hp')∨∃f xs,i=.call f xs:=by
 cases i with
 |call f xs=>exact .inr ⟨f,xs,rfl⟩
 |_=>exact .inl h
theorem arun_ok (hK:CmpOk X.P K) (hct:∀f con,ct f=some con→con.lev<lev→ConOk X O2 f con) (hW:WF X reg e σ g fs) {x:Ins} {l:List AS} {s s':Scr} (h:arun X K ct lev reg x σ s=some (l,s')) (hg:gguard x.gd g.tm=.run):
 ∃g',gstep1 X.P O2 x g=some g'∧∃z∈l,NF X reg e σ.nv z g' (gft x g g'::fs):=by
 unfold arun at h
 split at h
 case h_2=>cases h
 rename_i m s1 h1
 split at h
 case h_2=>cases h
 rename_i l1 h2
 cases h
 obtain⟨d',hp',h3,z,hz,k1,k2,e1,k3,k4⟩:=aop_ok hK hct hW.w h1;obtain⟨σ2,hσ,hf⟩:=each_mem h2 z hz;refine⟨_,gstep1_run hg h3,σ2,hσ,?_⟩;have tmk:∀(ft:List AFt),W X e1 {z.2 with tm:=aput x.dst z.1 z.2.tm,ft:=ft} ({tm:=gput x.dst d' g.tm,hp:=hp'}:GS):=by
  intro ft e' he;obtain⟨q1,q2⟩:=k4 e' he;have:=tm_ok q1 (dst:=x.dst) (.inr q2);exact⟨this.tm,this.ob,this.inj,this.me,this.fa⟩
 cases reg with
 |false=>
  have hf:some {z.2 with tm:=aput x.dst z.1 z.2.tm}=some σ2:=hf
  cases hf
  exact⟨k1,e1,k3,tmk z.2.ft,fun hr=>by cases hr⟩
 |true=>
  have hf:(match aft x.op σ z.1 with|some f=>some {z.2 with tm:=aput x.dst z.1 z.2.tm,ft:=f::late x.op z.1 z.2.ft}|none=>none)=some σ2:=hf
  split at hf
  case h_2=>cases hf
  rename_i f hfa
  cases hf
  have hle:=(hW.ft rfl).2;refine⟨k1,e1,k3,tmk _,fun _=>⟨fun e' he=>?_,fun h0 n1 ptr hm=>?_⟩⟩
  ·have he':Agr σ.nv e e':=k3.trans (he.mono k1)
   show Al (FtR e') (f::late x.op z.1 z.2.ft) _;rw[gft_run hg,k2];exact .cons (aft_ok hW.w h3 hfa he' (k4 e' he).2) (late_ok (gop_grd h3) (k4 e' he).2 ((hW.ft rfl).1 e' he') hle)
  ·have hlen:=gstep1_len (gstep1_run (P:=X.P) (O:=O2) hg h3)
   have hlen:g.hp.length≤hp'.length:=hlen;rcases List.mem_cons.1 hm with hh|hm
   case inr=>exact Nat.le_trans (hle h0 n1 ptr hm) hlen
   case inl=>
    rw[gft_run hg]at hh;show n1≤hp'.length;obtain⟨dst,gd,r,fr,op⟩:=x
    cases op with
    |call f2 xs=>
     have hh:Ft2.call h0 n1 ptr=(match each (gval g.tm) xs with
      |some ds=>.call g.hp (len hp') (gptr ds)
      |none=>.acc []):=hh
     split at hh
     ·cases hh;rw[len_eq];exact Nat.le_refl _
     ·cases hh
    |_=>cases hh
theorem askip_ok (hW:WF X reg e σ g fs) {x:Ins} {l:List AS} {s s':Scr} (h:askip reg x σ s=some (l,s')) (hg:gguard x.gd g.tm=.skip):
 ∃g',gstep1 X.P O2 x g=some g'∧∃z∈l,NF X reg e σ.nv z g' (gft x g g'::fs):=by
 unfold askip at h
 cases h
 refine⟨_,gstep1_skip hg,_,List.mem_singleton.2 rfl,Nat.le_refl _,e,.refl _ _,?_,fun hr=>⟨fun e' he=>?_,fun h0 n1 ptr hm=>?_⟩⟩
 ·intro e' he
  have:=tm_ok (hW.w e' he) (dst:=x.dst) (d:=.one .un) (d':=.one (.v .un)) (.inr rfl);exact⟨this.tm,this.ob,this.inj,this.me,this.fa⟩
 ·cases hr
  show Al (FtR e') (.acc []::σ.ft) _;rw[gft_skip hg];exact .cons (fun y hy=>by cases hy) ((hW.ft rfl).1 e' he)
 ·rw[gft_skip hg]at hm
  rcases List.mem_cons.1 hm with hh|hm
  ·cases hh
  ·exact(hW.ft hr).2 h0 n1 ptr hm
theorem astep_ok (hK:CmpOk X.P K) (hct:∀f con,ct f=some con→con.lev<lev→ConOk X O2 f con) (hW:WF X reg e σ g fs) {x:Ins} {l:List AS} {s s':Scr} (h:astep X K ct lev reg x σ s=some (l,s')):
 ∃z∈l,∃g',gstep1 X.P O2 x g=some g'∧NF X reg e σ.nv z g' (gft x g g'::fs):=by
 have turn:∀{l:List AS},(∃g',gstep1 X.P O2 x g=some g'∧∃z∈l,NF X reg e σ.nv z g' (gft x g g'::fs))→∃z∈l,∃g',gstep1 X.P O2 x g=some g'∧NF X reg e σ.nv z g' (gft x g g'::fs):=by
  rintro l ⟨g',a,z,b,c⟩;exact⟨z,b,g',a,c⟩
 unfold astep at h
 split at h
 ·rename_i hgd
  exact turn (arun_ok hK hct hW h (by rw[hgd];rfl))
 ·rename_i p want hgd
  split at h
  ·rename_i b hb
   obtain⟨y,h1,h2⟩:=cels_all hW.w hb;have hy:y=.v (.bool (bv e.ρ b)):=h2 e (.refl _ _);subst hy;have hgt:Tr.get p g.tm=some (.one (.v (.bool (bv e.ρ b)))):=gcel_val h1;have hsc:gsc g.tm (.t p)=some (.bool (bv e.ρ b)):=by unfold gsc;rw[h1];rfl
   refine asplit_ok (Q:=fun z=>∃g',gstep1 X.P O2 x g=some g'∧NF X reg e σ.nv z g' (gft x g g'::fs)) (t:=bv e.ρ b) hW.w (fun e' he=>?_) h ?_ ?_
   ·have:=h2 e' he
    have this:G.v (.bool (bv e.ρ b))=.v (.bool (bv e'.ρ b)):=this;injection this with this;injection this with this;exact this.symm
   ·intro σ' s1 s2 l1 ht hs hW' hr
    rw[ht]at hgt hsc;have hw2:WF X reg e (aref (.t p) true σ') g fs:=hW.same (aref_ok hW' hsc) hs.nv hs.ft;have hn:(aref (.t p) true σ').nv=σ.nv:=hs.nv
    cases want with
    |true=>
     have:=arun_ok hK hct hw2 hr (by rw[hgd];unfold gguard;simp only[hgt]);rw[hn]at this;exact turn this
    |false=>
     have:=askip_ok (O2:=O2) hw2 hr (by rw[hgd];unfold gguard;simp only[hgt]);rw[hn]at this;exact turn this
   ·intro σ' s1 s2 l1 ht hs hW' hr
    rw[ht]at hgt hsc;have hw2:WF X reg e (aref (.t p) false σ') g fs:=hW.same (aref_ok hW' hsc) hs.nv hs.ft;have hn:(aref (.t p) false σ').nv=σ.nv:=hs.nv
    cases want with
    |false=>
     have:=arun_ok hK hct hw2 hr (by rw[hgd];unfold gguard;simp only[hgt]);rw[hn]at this;exact turn this
    |true=>
     have:=askip_ok (O2:=O2) hw2 hr (by rw[hgd];unfold gguard;simp only[hgt]);rw[hn]at this;exact turn this
  ·rename_i hb
   obtain⟨y,h1,h2⟩:=cels_all hW.w hb;have hy:y=.v .un:=h2 e (.refl _ _);subst hy;have hgt:Tr.get p g.tm=some (.one (.v .un)):=gcel_val h1;exact turn (askip_ok hW h (by rw[hgd];unfold gguard;simp only[hgt]))
  ·cases h
theorem NF.trans {n:Nat} {σ1:AS} (h:n≤σ1.nv) {e1:AEnv} (he:Agr n e e1) {σ':AS} {g':GS} {fs':List Ft2} (k:NF X reg e1 σ1.nv σ' g' fs'):NF X reg e n σ' g' fs':=by
 obtain⟨k1,e2,k2,k3⟩:=k;exact⟨by omega,e2,he.trans (k2.mono h),k3⟩
theorem asg_cons (P:Program) (O:Oracle2) (x:Ins) (l:List Ins) (g:GS):gsteps P O (x::l) g=match gstep1 P O x g with|some g=>gsteps P O l g|none=>none:=by
 show(Option.rec none (fun s=>gsteps P O l s) (gstep1 P O x g):Option GS)=_
 cases gstep1 P O x g<;>rfl
theorem asteps_ok (hK:CmpOk X.P K) (hct:∀f con,ct f=some con→con.lev<lev→ConOk X O2 f con):∀{l:List Ins} {e:AEnv} {σ:AS} {g:GS} {m:List AS} {s s':Scr},WF X false e σ g []→asteps X K ct lev false l σ s=some (m,s')→
 ∃z∈m,∃g',gsteps X.P O2 l g=some g'∧NF X false e σ.nv z g' []
 |[],e,σ,g,m,s,s',hW,h=>by
  have h:some ([σ],s)=some (m,s'):=h
  cases h
  exact⟨σ,List.mem_singleton.2 rfl,g,rfl,Nat.le_refl _,e,.refl _ _,hW⟩
 |x::l,e,σ,g,m,s,s',hW,h=>by
  have h:(match astep X K ct lev false x σ s with
   |some (m,s)=>mapS (asteps X K ct lev false l) m s
   |none=>none)=some (m,s'):=h
  split at h
  case h_2=>cases h
  rename_i m1 s1 h1;obtain⟨z1,hz1,g1,k1,k2⟩:=astep_ok hK hct hW h1;refine mapS_ok (Q:=fun z=>z=z1) (R:=fun z=>∃g',gsteps X.P O2 (x::l) g=some g'∧NF X false e σ.nv z g' []) ?_ h ⟨z1,hz1,rfl⟩
  rintro z s2 m2 s3 rfl h2
  obtain⟨q1,e1,q2,q3⟩:=k2;obtain⟨z2,hz2,g2,r1,r2⟩:=asteps_ok hK hct (⟨q3.w,fun hr=>by cases hr⟩:WF X false e1 z g1 []) h2;refine⟨z2,hz2,g2,?_,NF.trans q1 q2 r2⟩;rw[asg_cons,k1];exact r1
theorem asgF_cons (P:Program) (O:Oracle2) (x:Nat×Ins) (l:List (Nat×Ins)) (g:GS) (fs:List Ft2):gstepsF P O (x::l) g fs=match gstep1 P O x.2 g with|some g'=>gstepsF P O l g' (gft x.2 g g'::fs)|none=>none:=by
 show(Option.rec none (fun s'=>gstepsF P O l s' (gft x.2 g s'::fs)) (gstep1 P O x.2 g):Option (GS×List Ft2))=_
 cases gstep1 P O x.2 g<;>rfl
theorem astepsF_ok (hK:CmpOk X.P K) (hct:∀f con,ct f=some con→con.lev<lev→ConOk X O2 f con):∀{l:List (Nat×Ins)} {e:AEnv} {σ:AS} {g:GS} {fs:List Ft2} {m:List AS} {s s':Scr},WF X true e σ g fs→asteps X K ct lev true (maps (fun z=>z.2) l) σ s=some (m,s')→
 ∃z∈m,∃g' fs',gstepsF X.P O2 l g fs=some (g',fs')∧NF X true e σ.nv z g' fs'
 |[],e,σ,g,fs,m,s,s',hW,h=>by
  have h:some ([σ],s)=some (m,s'):=h
  cases h
  exact⟨σ,List.mem_singleton.2 rfl,g,fs,rfl,Nat.le_refl _,e,.refl _ _,hW⟩
 |x::l,e,σ,g,fs,m,s,s',hW,h=>by
  have h:(match astep X K ct lev true x.2 σ s with
   |some (m,s)=>mapS (asteps X K ct lev true (maps (fun z=>z.2) l)) m s
   |none=>none)=some (m,s'):=h
  split at h
  case h_2=>cases h
  rename_i m1 s1 h1;obtain⟨z1,hz1,g1,k1,k2⟩:=astep_ok hK hct hW h1;refine mapS_ok (Q:=fun z=>z=z1) (R:=fun z=>∃g' fs',gstepsF X.P O2 (x::l) g fs=some (g',fs')∧NF X true e σ.nv z g' fs') ?_ h ⟨z1,hz1,rfl⟩
  rintro z s2 m2 s3 rfl h2
  obtain⟨q1,e1,q2,q3⟩:=k2;obtain⟨z2,hz2,g2,fs2,r1,r2⟩:=astepsF_ok hK hct q3 h2;refine⟨z2,hz2,g2,fs2,?_,NF.trans q1 q2 r2⟩;rw[asgF_cons,k1];exact r1
end
noncomputable def hasO (ob:List (Nat×AO)) (nm:Nat):Bool:=match findO nm ob with|some _=>true|none=>false
noncomputable def nfO (ob:List (Nat×AO)) (nm:Nat):Bool:=match findO nm ob with|some (.X _ _)=>true|some (.M _ _ _ _)=>true|some .dead=>true|_=>false
noncomputable def aapart (ob:List (Nat×AO)) (x y:AAc):Bool:=
 match x,y with
 |(v,some a,r),(w,some b,q)=>Bool.rec (Bool.rec true (Bool.rec (Bool.rec false (hasO ob b) (hasO ob a)) (apartR r q) (Nat.beq a b)) w) (Bool.rec (Bool.rec false (hasO ob b) (hasO ob a)) (apartR r q) (Nat.beq a b)) v
 |(v,some a,_),(w,none,_)=>Bool.rec (Bool.rec true (nfO ob a) v) false w
 |(v,none,_),(_,some _,_)=>Bool.rec true false v
 |(v,none,_),(w,none,_)=>Bool.rec (Bool.rec true false w) false v
noncomputable def ptrA (ob:List (Nat×AO)) (a:Nat) (ptr:Option Nat):Bool:=match ptr with
 |none=>true
 |some p=>Bool.rec (Bool.rec false (hasO ob p) (hasO ob a)) false (Nat.beq a p)
noncomputable def aleave (b:Bool) (ob:List (Nat×AO)) (live:List Nat) (ptr:Option Nat) (lat:List Nat) (x:AAc):Bool:=
 match x with
 |(true,_,_)=>true
 |(false,none,_)=>b
 |(false,some a,_)=>Bool.rec (Bool.rec false (ptrA ob a ptr) (any (fun nm=>Nat.beq nm a) live)) true (Bool.rec (any (fun nm=>Nat.beq nm a) lat) false b)
noncomputable def afine (ob:List (Nat×AO)) (x y:AFt):Bool:=
 match x,y with
 | .acc l,.acc m=>all (fun x=>all (fun y=>aapart ob x y) m) l
 | .acc m,.call live p lat=>all (aleave true ob live p lat) m
 | .call live p lat,.acc m=>all (aleave false ob live p lat) m
 | .call _ _ _,.call _ _ _=>false
noncomputable def aokF (ob:List (Nat×AO)) (fs:List AFt) (n:Nat) (chk:List (Nat×Nat)):Bool:=
 List.rec true (fun p _ ih=>
  match nth fs (n-1-p.1),nth fs (n-1-p.2)with
  |some x,some y=>Bool.rec false ih (Bool.rec false (afine ob x y) (Bool.rec false (Nat.ble (Nat.succ p.1) p.2) (Nat.ble (Nat.succ p.2) n)))
  |_,_=>false) chk
section
variable{X:Cx} {e:AEnv} {σ:AS} {g:GS}
theorem hasO_ok {ob:List (Nat×AO)} {nm:Nat} (h:hasO ob nm=true):findO nm ob≠none:=by
 unfold hasO at h;intro hn;rw[hn]at h;cases h
theorem nfO_ok (h:Holds X e σ g) {nm:Nat} (hn:nfO σ.ob nm=true) (hon:e.on nm=true):ofr g.hp (e.ν nm)=false:=by
 unfold nfO at hn;unfold ofr
 split at hn
 ·rename_i hf;obtain⟨o,k1,gs,rfl,_⟩:=h.ob nm _ hf hon;rw[nth_eq,k1]
 ·rename_i hf;obtain⟨o,k1,us,k,m,rfl,_⟩:=h.ob nm _ hf hon;rw[nth_eq,k1]
 ·rename_i hf;obtain⟨o,k1,k2⟩:=h.ob nm _ hf hon;have k2:o=.dead:=k2;subst k2;rw[nth_eq,k1]
 ·cases hn
theorem nbeq_false {a b:Nat} (h:a≠b):Nat.beq a b=false:=by
 cases hb:Nat.beq a b with
 |false=>rfl
 |true=>exact absurd ((beq_iff _ _).1 hb) h
theorem aapart_ok (h:Holds X e σ g) {x y:AAc} {x' y':Acc2} (hx:AccR e x x') (hy:AccR e y y') (ha:aapart σ.ob x y=true):gclash g.hp x' y'=false:=by
 obtain⟨v,nx,r⟩:=x;obtain⟨w,ny,q⟩:=y;obtain⟨v',ix,r'⟩:=x';obtain⟨w',iy,q'⟩:=y';obtain⟨hv,hx⟩:=hx;obtain⟨hw,hy⟩:=hy;have hv:v=v':=hv;have hw:w=w':=hw;subst hv;subst hw
 cases nx with
 |none=>
  cases ix with
  |some _=>exact hx.elim
  |none=>
   cases ny with
   |none=>
    cases iy with
    |some _=>exact hy.elim
    |none=>cases v<;>cases w<;>first|rfl|cases ha
   |some b=>
    cases iy with
    |none=>exact hy.elim
    |some j=>
     obtain⟨y1,rfl,_⟩:=hy
     cases v with
     |true=>cases ha
     |false=>
      cases w<;>rfl
 |some a=>
  cases ix with
  |none=>exact hx.elim
  |some i=>
   obtain⟨x1,rfl,x2⟩:=hx
   cases ny with
   |none=>
    cases iy with
    |some _=>exact hy.elim
    |none=>
     cases w with
     |true=>cases ha
     |false=>
      cases v with
      |false=>rfl
      |true=>
       have ha:nfO σ.ob a=true:=ha;exact nfO_ok h ha x1
   |some b=>
    cases iy with
    |none=>exact hy.elim
    |some j=>
     obtain⟨y1,rfl,y2⟩:=hy;have core:(Bool.rec (Bool.rec false (hasO σ.ob b) (hasO σ.ob a)) (apartR r q) (Nat.beq a b):Bool)=true→(Bool.rec false (Bool.rec true false (apartR r' q')) (Nat.beq (e.ν a) (e.ν b)):Bool)=false:=by
      intro hc;rw[brec']at hc
      split at hc
      ·have hr:r'=r:=by
        rcases x2 with x2|x2
        ·have x2:r=none:=x2;subst x2;unfold apartR at hc;split at hc<;>first|(rename_i hh;cases hh)|cases hc
        ·exact x2.symm
       have hq:q'=q:=by
        rcases y2 with y2|y2
        ·have y2:q=none:=y2;subst y2;unfold apartR at hc;split at hc<;>first|(rename_i hh;cases hh)|cases hc
        ·exact y2.symm
       rw[hr,hq,hc]
       cases Nat.beq (e.ν a) (e.ν b)<;>rfl
      ·rename_i hab
       rw[brec']at hc
       split at hc
       case isFalse=>cases hc
       rename_i h1;have:e.ν a≠e.ν b:=fun hh=>hab ((beq_iff _ _).2 (h.inj a b (hasO_ok h1) (hasO_ok hc) x1 y1 hh))
       rw[nbeq_false this]
     cases v with
     |true=>cases w<;>exact core ha
     |false=>
      cases w with
      |true=>exact core ha
      |false=>rfl
end
end Go.Proofs.YtiahijhpjloijaaGreat.V

