/- Parts of the proof, put together: R17, R18, R19, R20, R21, R22. -/
import Derived.Test.YtiahijhpjloijaaGreatM13
set_option linter.unusedVariables false
set_option linter.unusedSimpArgs false
namespace Go.Proofs.YtiahijhpjloijaaGreat.V
open Go
section
variable{X:Cx} {e:AEnv} {σ:AS} {g:GS}
theorem any_true {α:Type} {f:α→Bool}:∀{l:List α},any f l=true→∃x∈l,f x=true:=by
 intro l h
 cases hc:any f l with
 |false=>rw[hc]at h;cases h
 |true=>
  refine Classical.byContradiction fun hn=>?_
  have:any f l=false:=any_of_false fun x hx=>by
   cases hfx:f x with
   |false=>rfl
   |true=>exact absurd ⟨x,hx,hfx⟩ hn
  rw[this]at h;cases h
theorem aleave_ok (h:Holds X e σ g) {b:Bool} {live:List Nat} {p q:Option Nat} {lat:List Nat} {h0:List GO} {n1:Nat} {x:AAc} {x':Acc2} (hx:AccR e x x')
 (hl:∀nm∈live,e.on nm=true→∃e0 fr cs,h0[e.ν nm]?=some (.ob e0 fr cs)) (hp:PtrM e p q) (hlt:∀nm∈lat,e.on nm=true→n1≤e.ν nm) (ha:aleave b σ.ob live p lat x=true):gleave b h0 n1 q x'=true:=by
 obtain⟨v,nx,r⟩:=x;obtain⟨v',ix,r'⟩:=x';obtain⟨hv,hx⟩:=hx;have hv:v=v':=hv;subst hv
 cases v with
 |true=>rfl
 |false=>
  cases nx with
  |none=>
   cases ix with
   |some _=>exact hx.elim
   |none=>exact ha
  |some a=>
   cases ix with
   |none=>exact hx.elim
   |some i=>
    obtain⟨x1,rfl,_⟩:=hx;have ha:(Bool.rec (Bool.rec false (ptrA σ.ob a p) (any (fun nm=>Nat.beq nm a) live):Bool) true (Bool.rec (any (fun nm=>Nat.beq nm a) lat) false b:Bool):Bool)=true:=ha;rw[brec']at ha
    split at ha
    ·rename_i hb
     cases b with
     |true=>cases hb
     |false=>
      have hb:any (fun nm=>Nat.beq nm a) lat=true:=hb;obtain⟨nm,hm,h3⟩:=any_true hb;have h3:=(beq_iff _ _).1 h3;subst h3;have h4:=hlt nm hm x1;show(Bool.rec (Bool.rec (Nat.ble n1 (e.ν nm)) false false) true (Bool.rec false (Bool.rec false (ptrNe q (e.ν nm)) (oob h0 (e.ν nm))) (Nat.ble (Nat.succ (e.ν nm)) (len h0)):Bool):Bool)=true;rw[show Nat.ble n1 (e.ν nm)=true from(ble_iff _ _).2 h4]
      cases(Bool.rec false (Bool.rec false (ptrNe q (e.ν nm)) (oob h0 (e.ν nm))) (Nat.ble (Nat.succ (e.ν nm)) (len h0)):Bool)<;>rfl
    obtain⟨h1,h2⟩:=and2 ha;obtain⟨nm,hm,h3⟩:=any_true h1;have h3:=(beq_iff _ _).1 h3;subst h3;obtain⟨e0,fr,cs,h4⟩:=hl nm hm x1;have k1:Nat.ble (Nat.succ (e.ν nm)) (len h0)=true:=by rw[ble_iff,len_eq];exact lt_of_get h4
    have k2:oob h0 (e.ν nm)=true:=by unfold oob;rw[nth_eq,h4]
    have k3:ptrNe q (e.ν nm)=true:=by
     cases p with
     |none=>cases q with
      |none=>rfl
      |some _=>exact hp.elim
     |some p=>cases q with
      |none=>exact hp.elim
      |some j=>
       obtain⟨p1,rfl⟩:=hp;have h2:(Bool.rec (Bool.rec false (hasO σ.ob p) (hasO σ.ob nm)) false (Nat.beq nm p):Bool)=true:=h2;rw[brec']at h2
       split at h2
       ·cases h2
       ·rename_i hne
        obtain⟨q1,q2⟩:=and2 h2;have:e.ν nm≠e.ν p:=fun hh=>hne ((beq_iff _ _).2 (h.inj nm p (hasO_ok q1) (hasO_ok q2) x1 p1 hh))
        show(Bool.rec true false (Nat.beq (e.ν nm) (e.ν p)):Bool)=true;rw[nbeq_false this]
    show(Bool.rec (Bool.rec (Nat.ble n1 (e.ν nm)) false b) true (Bool.rec false (Bool.rec false (ptrNe q (e.ν nm)) (oob h0 (e.ν nm))) (Nat.ble (Nat.succ (e.ν nm)) (len h0)):Bool):Bool)=true;rw[k1,k2,k3]
theorem afine_ok (h:Holds X e σ g) {x y:AFt} {x' y':Ft2} (hx:FtR e x x') (hy:FtR e y y') (ha:afine σ.ob x y=true):gclashes g.hp x' y'=false:=by
 cases x with
 |acc l=>
  cases x' with
  |call _ _ _=>exact hx.elim
  |acc l'=>
   cases y with
   |acc m=>
    cases y' with
    |call _ _ _=>exact hy.elim
    |acc m'=>
     refine any_of_false fun a haa=>any_of_false fun b hbb=>?_
     obtain⟨a1,k1,k2⟩:=hx a haa;obtain⟨b1,k3,k4⟩:=hy b hbb;exact aapart_ok h k2 k4 (all_true (all_true ha a1 k1) b1 k3)
   |call live p lat=>
    cases y' with
    |acc _=>exact hy.elim
    |call h0 n1 q=>
     have:all (gleave true h0 n1 q) l'=true:=all_of fun a haa=>by
      obtain⟨a1,k1,k2⟩:=hx a haa;exact aleave_ok h k2 hy.1.1 hy.1.2 hy.2 (all_true ha a1 k1)
     show(Bool.rec true false (all (gleave true h0 n1 q) l'):Bool)=false;rw[this]
 |call live p lat=>
  cases x' with
  |acc _=>exact hx.elim
  |call h0 n1 q=>
   cases y with
   |call _ _ _=>cases ha
   |acc m=>
    cases y' with
    |call _ _ _=>exact hy.elim
    |acc m'=>
     have:all (gleave false h0 n1 q) m'=true:=all_of fun a haa=>by
      obtain⟨a1,k1,k2⟩:=hy a haa;exact aleave_ok h k2 hx.1.1 hx.1.2 hx.2 (all_true ha a1 k1)
     show(Bool.rec true false (all (gleave false h0 n1 q) m'):Bool)=false;rw[this]
theorem aokF_ok (h:Holds X e σ g) {fs:List AFt} {fs':List Ft2} (hf:Al (FtR e) fs fs') {n:Nat}:∀{chk:List (Nat×Nat)},aokF σ.ob fs n chk=true→gokF g.hp fs' n chk=true
 |[],_=>rfl
 |p::chk,ha=>by
  have ha:(match nth fs (n-1-p.1),nth fs (n-1-p.2)with
   |some x,some y=>(Bool.rec false (aokF σ.ob fs n chk) (Bool.rec false (afine σ.ob x y) (Bool.rec false (Nat.ble (Nat.succ p.1) p.2) (Nat.ble (Nat.succ p.2) n):Bool):Bool):Bool)
   |_,_=>false)=true:=ha
  show(match nth fs' (n-1-p.1),nth fs' (n-1-p.2)with
   |some x,some y=>(Bool.rec (gokF g.hp fs' n chk) false (Bool.rec true (gclashes g.hp x y) (Bool.rec false (Nat.ble (Nat.succ p.1) p.2) (Nat.ble (Nat.succ p.2) n):Bool):Bool):Bool)
   |_,_=>false)=true
  split at ha
  case h_2=>cases ha
  rename_i x y hx hy;rw[nth_eq]at hx hy;obtain⟨x',k1,k2⟩:=hf.get hx;obtain⟨y',k3,k4⟩:=hf.get hy;rw[nth_eq,nth_eq,k1,k3];obtain⟨h1,h2⟩:=and2 ha;obtain⟨h3,h4⟩:=and2 h1;simp only[];rw[h3];show(Bool.rec (gokF g.hp fs' n chk) false (gclashes g.hp x' y'):Bool)=true;rw[afine_ok h k2 k4 h4];exact aokF_ok h hf h2
end
noncomputable def dI (x:Ins):List Pos:=match x.dst with|some p=>[p]|none=>[]
noncomputable def dIs (l:List Ins):List Pos:=List.rec [] (fun x _ ih=>app (dI x) ih) l
noncomputable def dK (k:K):List Pos:=
 K.rec (fun _ l=>dIs l) (fun _ l _=>dIs (maps (fun z=>z.2) l)) (fun _ _ a b=>app a b) (fun _ _ _ a b=>app a b) (fun _ _ a=>a) (fun _ a=>a) (fun _=>[]) [] [] k
noncomputable def tops (l:List Pos) (tm:Tr AD):Tr AD:=List.rec (fun tm=>tm) (fun p _ ih tm=>ih (Tr.set p .top tm)) l tm
theorem tops_get:∀{l:List Pos} {tm:Tr AD} {p:Pos} {d:AD},Tr.get p (tops l tm)=some d→d=.top∨(p∉l∧Tr.get p tm=some d)
 |[],tm,p,d,h=>.inr ⟨by simp,h⟩
 |q::l,tm,p,d,h=>by
  have h:Tr.get p (tops l (Tr.set q .top tm))=some d:=h;rcases tops_get h with h1|⟨h1,h2⟩
  ·exact .inl h1
  ·rw[Tr.get_set]at h2
   split at h2
   ·cases h2;exact .inl rfl
   ·rename_i hne
    refine .inr ⟨fun hm=>?_,h2⟩
    cases hm with
    |head=>exact hne rfl
    |tail _ hm=>exact h1 hm
section
variable{P:Program} {O:Oracle2}
theorem gput_other {dst:Option Pos} {d:GD} {tm:Tr GD} {p:Pos} (h:∀q,dst=some q→p≠q):Tr.get p (gput dst d tm)=Tr.get p tm:=by
 cases dst with
 |none=>rfl
 |some q=>
  show Tr.get p (Tr.set q d tm)=_;rw[Tr.get_set]
  split
  ·rename_i hpq;exact absurd (by first|exact hpq|exact hpq.symm) (h q rfl)
  ·rfl
theorem gstep1_other {x:Ins} {g g':GS} (h:gstep1 P O x g=some g') {p:Pos} (hp:p∉dI x):Tr.get p g'.tm=Tr.get p g.tm:=by
 obtain⟨dst,gd,r,fr,op⟩:=x;have hd:∀q,dst=some q→p≠q:=by
  rintro q rfl rfl
  exact hp (List.mem_singleton.2 rfl)
 unfold gstep1 at h
 split at h
 ·cases h;exact gput_other hd
 ·cases h
 ·split at h
  ·split at h
   ·split at h
    ·cases h;exact gput_other hd
    ·cases h
   ·cases h
  ·split at h
   ·cases h;exact gput_other hd
   ·cases h
theorem gsteps_other {p:Pos}:∀{l:List Ins} {g g':GS},gsteps P O l g=some g'→p∉dIs l→Tr.get p g'.tm=Tr.get p g.tm
 |[],g,g',h,hp=>by cases h;rfl
 |x::l,g,g',h,hp=>by
  have hp:p∉app (dI x) (dIs l):=hp;rw[app_eq,List.mem_append]at hp;rw[gsteps_cons]at h
  split at h
  case h_2=>cases h
  rename_i g1 h1;rw[gsteps_other h (fun hh=>hp (.inr hh)),gstep1_other h1 (fun hh=>hp (.inl hh))]
theorem gstepsF_other {p:Pos}:∀{l:List (Nat×Ins)} {g g':GS} {fs fs':List Ft2},gstepsF P O l g fs=some (g',fs')→p∉dIs (maps (fun z=>z.2) l)→Tr.get p g'.tm=Tr.get p g.tm
 |[],g,g',fs,fs',h,hp=>by cases h;rfl
 |x::l,g,g',fs,fs',h,hp=>by
  have hp:p∉app (dI x.2) (dIs (maps (fun z=>z.2) l)):=hp;rw[app_eq,List.mem_append]at hp;rw[gstepsF_cons]at h
  split at h
  case h_2=>cases h
  rename_i g1 h1;rw[gstepsF_other h (fun hh=>hp (.inr hh)),gstep1_other h1 (fun hh=>hp (.inl hh))]
def outS:GOut→Option GS
 | .norm s=>some s
 | .exit _ s=>some s
 | .ret s=>some s
 | .no=>none
theorem giter_other {f:GS→GOut} {p:Pos} (hf:∀g g',outS (f g)=some g'→Tr.get p g'.tm=Tr.get p g.tm):∀{n:Nat} {g g':GS},outS (giter f n g)=some g'→Tr.get p g'.tm=Tr.get p g.tm
 |0,g,g',h=>by cases h
 |n+1,g,g',h=>by
  have h:outS (GOut.rec (fun s=>giter f n s) (fun j s=>.exit j s) (fun s=>.ret s) .no (f g))=some g':=h
  cases hfg:f g with
  |norm s=>
   rw[hfg]at h;rw[giter_other hf h,hf g s (by rw[hfg];rfl)]
  |exit j s=>rw[hfg]at h;exact hf g g' (by rw[hfg];exact h)
  |ret s=>rw[hfg]at h;exact hf g g' (by rw[hfg];exact h)
  |no=>rw[hfg]at h;cases h
theorem gev_other {n:Nat} {p:Pos}:∀{k:K} {g g':GS},outS (gev P O n k g)=some g'→p∉dK k→Tr.get p g'.tm=Tr.get p g.tm
 | .blk na l,g,g',h,hp=>by
   have h:outS (Option.rec .no (fun s=>.norm s) (gsteps P O l g))=some g':=h
   cases hs:gsteps P O l g with
   |none=>rw[hs]at h;cases h
   |some s=>rw[hs]at h;cases h;exact gsteps_other hs hp
 | .dblk na l chk,g,g',h,hp=>by
   have h:outS (match gstepsF P O l g []with
    |some (s',fs)=>Bool.rec .no (.norm s') (gokF s'.hp fs (len l) chk)
    |none=>.no)=some g':=h
   split at h
   ·rename_i s fs hs
    rw[brec']at h
    split at h
    ·cases h;exact gstepsF_other hs hp
    ·cases h
   ·cases h
 | .seq a b,g,g',h,hp=>by
   have hp:p∉app (dK a) (dK b):=hp;rw[app_eq,List.mem_append]at hp;have h:outS (GOut.rec (fun s=>gev P O n b s) (fun j s=>.exit j s) (fun s=>.ret s) .no (gev P O n a g))=some g':=h
   cases hs:gev P O n a g with
   |norm s=>
    rw[hs]at h;rw[gev_other (k:=b) h (fun hh=>hp (.inr hh)),gev_other (k:=a) (g:=g) (g':=s) (by rw[hs];rfl) (fun hh=>hp (.inl hh))]
   |exit j s=>rw[hs]at h;exact gev_other (k:=a) (by rw[hs];exact h) (fun hh=>hp (.inl hh))
   |ret s=>rw[hs]at h;exact gev_other (k:=a) (by rw[hs];exact h) (fun hh=>hp (.inl hh))
   |no=>rw[hs]at h;cases h
 | .cond c a b,g,g',h,hp=>by
   have hp:p∉app (dK a) (dK b):=hp;rw[app_eq,List.mem_append]at hp;have h:outS (match gcel g.tm c with
    |some (.v (.bool t))=>Bool.rec (gev P O n b g) (gev P O n a g) t
    |_=>.no)=some g':=h
   split at h
   ·rename_i t _
    cases t with
    |true=>exact gev_other (k:=a) h (fun hh=>hp (.inl hh))
    |false=>exact gev_other (k:=b) h (fun hh=>hp (.inr hh))
   ·cases h
 | .block id a,g,g',h,hp=>by
   have h:outS (GOut.rec (fun s=>.norm s) (fun j s=>Bool.rec (.exit j s) (.norm s) (Nat.beq j id)) (fun s=>.ret s) .no (gev P O n a g))=some g':=h
   cases hs:gev P O n a g with
   |norm s=>rw[hs]at h;exact gev_other (k:=a) (by rw[hs];exact h) hp
   |exit j s=>
    rw[hs]at h;have h:outS (Bool.rec (.exit j s) (.norm s) (Nat.beq j id))=some g':=h;refine gev_other (n:=n) (k:=a) (g':=g') ?_ hp;rw[hs]
    cases hb:Nat.beq j id<;>(rw[hb]at h;exact h)
   |ret s=>rw[hs]at h;exact gev_other (k:=a) (by rw[hs];exact h) hp
   |no=>rw[hs]at h;cases h
 | .loop a,g,g',h,hp=>giter_other (fun g g' h=>gev_other (k:=a) h hp) h
 | .exit id,g,g',h,hp=>by cases h;rfl
 | .ret,g,g',h,hp=>by cases h;rfl
 | .skip,g,g',h,hp=>by cases h;rfl
end
end Go.Proofs.YtiahijhpjloijaaGreat.V

namespace Go.Proofs.YtiahijhpjloijaaGreat.V
open Go
inductive Kd where
 |norm
 |exit (id:Nat)
 |ret
abbrev RK:=Option (List (Kd×AS)×Scr)
noncomputable def sets (l:List (Pos×AD)) (tm:Tr AD):Tr AD:=List.rec (fun tm=>tm) (fun z _ ih tm=>ih (Tr.set z.1 z.2 tm)) l tm
noncomputable def lhead (a:LoopA) (dl:List Pos) (σ:AS):AS:=
 facts a.fa {σ with tm:=sets a.tm (tops dl σ.tm),ob:=a.ob,nv:=a.nv}
noncomputable def lchk (X:Cx) (a:LoopA) (mp:Mp) (ads:List AD) (τ:AS) (s:Scr):Option (Lin×AS×Scr):=
 match ckDs X τ.fa mp (maps (fun z=>z.2) a.tm) ads s with
 |some s=>match ckOs X τ.fa mp τ.ob a.ob s with
  |some s=>match ckF τ.fa mp a.fa s with
   |some s=>match sbF mp.f a.rank with
    |some r=>Bool.rec none (some (r,τ,s)) (apartN mp a.ob)
    |none=>none
   |none=>none
  |none=>none
 |none=>none
noncomputable def lmatch (X:Cx) (a:LoopA) (n0:Nat) (τ:AS) (s:Scr):Option (Lin×AS×Scr):=
 match each (aval τ.tm) (maps (fun z=>A.t z.1) a.tm)with
 |some ads=>match nbDs ads τ s with
  |some (ads,τ,s)=>match s with
   | .x l::s=>lchk X a (mpOf n0 a.nv (bAs n0 τ.ob a.ob (bDs n0 (maps (fun z=>z.2) a.tm) ads ⟨l,[],[]⟩))) ads τ s
   |_=>none
  |none=>none
 |none=>none
noncomputable def aback (X:Cx) (a:LoopA) (n0:Nat) (z:Kd×AS) (s:Scr):RK:=
 match z.1 with
 | .norm=>match lmatch X a n0 z.2 s with
   |some (r,τ,s)=>match need τ.fa (lsub1 (lsub a.rank r)) s with
    |some s=>some ([],s)
    |none=>none
   |none=>none
 |k=>some ([(k,z.2)],s)
noncomputable def aloop2 (X:Cx) (body:AS→Scr→RK) (a:LoopA) (n0:Nat) (hd:AS) (s:Scr):RK:=
 match need hd.fa a.rank s with
 |some s=>match body hd s with
  |some (l,s)=>mapS (aback X a n0) l s
  |none=>none
 |none=>none
noncomputable def aloop1 (X:Cx) (body:AS→Scr→RK) (dl:List Pos) (a:LoopA) (σ:AS) (s:Scr):RK:=
 Bool.rec none (match lmatch X a σ.nv σ s with
  |some (r,τ,s)=>match need τ.fa (lsub (lK (.ofNat (FUEL-102))) r) s with
   |some s=>aloop2 X body a σ.nv (lhead a dl σ) s
   |none=>none
  |none=>none) (Bool.rec false (llt a.nv a.rank) (Nat.ble σ.nv a.nv))
noncomputable def heads (k:Nat):Scr→Option (List LoopA×Scr):=
 Nat.rec (fun s=>some ([],s)) (fun _ ih s=>match s with
  | .lp a::s=>match ih s with|some (l,s)=>some (a::l,s)|none=>none
  |_=>none) k
noncomputable def amany1 (X:Cx) (n0:Nat) (bd:Lin→Lin) (a:LoopA) (τ:AS) (s:Scr):Option (List Unit×Scr):=
 Bool.rec none (match lmatch X a n0 τ s with
  |some (r,τ,s)=>match need τ.fa (bd r) s with|some s=>some ([()],s)|none=>none
  |none=>none) (Nat.ble n0 a.nv)
noncomputable def amany (X:Cx) (as1:List LoopA) (n0:Nat) (bd:Lin→Lin) (k:Nat):AS→Scr→Option (List Unit×Scr):=
 Nat.rec (fun _ _=>none) (fun _ ih τ s=>match s with
  | .n h::s=>match nth as1 h with
    |some a=>amany1 X n0 bd a τ s
    |none=>none
  | .x l::s=>match l with
    |z::_=>Bool.rec none (asplit (.ge z.2) τ s ih ih) (llt τ.nv z.2)
    |[]=>none
  |_=>none) k
noncomputable def abackM (X:Cx) (as1:List LoopA) (a:LoopA) (n0:Nat) (z:Kd×AS) (s:Scr):RK:=
 match z.1 with
 | .norm=>match amany X as1 n0 (fun r=>lsub1 (lsub a.rank r)) 8 z.2 s with
   |some (_,s)=>some ([],s)
   |none=>none
 |k=>some ([(k,z.2)],s)
noncomputable def aloopM2 (X:Cx) (body:AS→Scr→RK) (as1:List LoopA) (dl:List Pos) (σ:AS) (a:LoopA) (s:Scr):RK:=
 Bool.rec none (match need (lhead a dl σ).fa a.rank s with
  |some s=>match body (lhead a dl σ) s with
   |some (l,s)=>mapS (abackM X as1 a σ.nv) l s
   |none=>none
  |none=>none) (Bool.rec false (llt a.nv a.rank) (Nat.ble σ.nv a.nv))
noncomputable def aloopM (X:Cx) (body:AS→Scr→RK) (dl:List Pos) (σ:AS) (s:Scr):RK:=
 match s with
 | .n k::s=>match heads k s with
   |some (as1,s)=>match amany X as1 σ.nv (fun r=>lsub (lK (.ofNat (FUEL-102))) r) 8 σ s with
    |some (_,s)=>mapS (aloopM2 X body as1 dl σ) as1 s
    |none=>none
   |none=>none
 |_=>none
noncomputable def aloop (X:Cx) (body:AS→Scr→RK) (dl:List Pos) (p:Nat):AS→Scr→RK:=
 Nat.rec (fun _ _=>none) (fun _ ih σ s=>match s with
 | .lp a::s=>aloop1 X body dl a σ s
 | .n _::s=>match body σ s with
   |some (l,s)=>mapS (fun z s=>match z.1 with| .norm=>ih z.2 s|k=>some ([(k,z.2)],s)) l s
   |none=>none
 | .x _::s=>aloopM X body dl σ s
 |_=>none) p
noncomputable def aev (X:Cx) (K0:TypeId→Option (List Nat)) (ct:Nat→Option Con) (lev:Nat):K→AS→Scr→RK
 | .blk na l,σ,s=>match asteps X K0 ct lev false l σ s with
   |some (m,s)=>some (maps (fun z=>(Kd.norm,z)) m,s)
   |none=>none
 | .dblk na l chk,σ,s=>match asteps X K0 ct lev true (maps (fun z=>z.2) l) {σ with ft:=[]} s with
   |some (m,s)=>Bool.rec none (some (maps (fun z=>(Kd.norm,z)) m,s)) (all (fun z:AS=>aokF z.ob z.ft (len l) chk) m)
   |none=>none
 | .seq a b,σ,s=>match aev X K0 ct lev a σ s with
   |some (m,s)=>mapS (fun z s=>match z.1 with| .norm=>aev X K0 ct lev b z.2 s|k=>some ([(k,z.2)],s)) m s
   |none=>none
 | .cond c a b,σ,s=>match abool σ.tm c with
   |some t=>asplit t σ s (fun σ s=>aev X K0 ct lev a (aref c true σ) s) (fun σ s=>aev X K0 ct lev b (aref c false σ) s)
   |none=>none
 | .block id a,σ,s=>match aev X K0 ct lev a σ s with
   |some (m,s)=>some (maps (fun z=>match z.1 with| .exit j=>Bool.rec z (.norm,z.2) (Nat.beq j id)|_=>z) m,s)
   |none=>none
 | .loop a,σ,s=>aloop X (fun σ s=>aev X K0 ct lev a σ s) (dK a) 70 σ s
 | .exit id,σ,s=>some ([(.exit id,σ)],s)
 | .ret,σ,s=>some ([(.ret,σ)],s)
 | .skip,σ,s=>some ([(.norm,σ)],s)
def OutM (k:Kd) (g:GS):GOut:=match k with| .norm=>.norm g| .exit j=>.exit j g| .ret=>.ret g
def NK (X:Cx) (e:AEnv) (n:Nat) (z:Kd×AS) (g':GS):Prop:=n≤z.2.nv∧∃e1,Agr n e e1∧W X e1 z.2 g'
theorem sets_get:∀{l:List (Pos×AD)} {tm:Tr AD} {p:Pos} {d:AD},Tr.get p (sets l tm)=some d→(p,d)∈l∨Tr.get p tm=some d
 |[],tm,p,d,h=>.inr h
 |z::l,tm,p,d,h=>by
  have h:Tr.get p (sets l (Tr.set z.1 z.2 tm))=some d:=h;rcases sets_get h with h1|h1
  ·exact .inl (List.mem_cons_of_mem _ h1)
  ·rw[Tr.get_set]at h1
   split at h1
   ·rename_i hpq
    cases h1
    left;obtain⟨q,d⟩:=z;have:p=q:=by first|exact hpq|exact hpq.symm
    subst this;exact List.mem_cons_self
   ·exact .inr h1
theorem mapS_all {α β:Type} {f:α→Scr→Option (List β×Scr)}:∀{l:List α} {s s':Scr} {m:List β},mapS f l s=some (m,s')→∀x∈l,∃s1 s2 m1,f x s1=some (m1,s2)∧∀y∈m1,y∈m
 |[],s,s',m,h,x,hx=>by cases hx
 |z::l,s,s',m,h,x,hx=>by
  have h:(match f z s with
   |some (m,s)=>match mapS f l s with|some (m2,s)=>some (app m m2,s)|none=>none
   |none=>none)=some (m,s'):=h
  split at h
  case h_2=>cases h
  rename_i m1 s1 h1
  split at h
  case h_2=>cases h
  rename_i m2 s2 h2
  cases h
  rw[app_eq]
  cases hx with
  |head=>exact⟨_,_,_,h1,fun y hy=>List.mem_append_left _ hy⟩
  |tail _ hx=>
   obtain⟨a,b,c,h3,h4⟩:=mapS_all h2 x hx;exact⟨a,b,c,h3,fun y hy=>List.mem_append_right _ (h4 y hy)⟩
section
variable{X:Cx}
theorem vals_mem {e:AEnv} {tm:Tr GD}:∀{l:List (Pos×AD)} {ds:List GD},each (gval tm) (maps (fun z=>A.t z.1) l)=some ds→Al (gaD X e) (maps (fun z=>z.2) l) ds→∀z∈l,∃d',Tr.get z.1 tm=some d'∧gaD X e z.2 d'
 |[],ds,h,hd,z,hz=>by cases hz
 |y::l,ds,h,hd,z,hz=>by
  have h:each (gval tm) (A.t y.1::maps (fun z=>A.t z.1) l)=some ds:=h;rw[each_cons]at h
  split at h
  case h_2=>cases h
  rename_i d h1
  split at h
  case h_2=>cases h
  rename_i ds' h2
  cases h
  have hd:Al (gaD X e) (y.2::maps (fun z=>z.2) l) (d::ds'):=hd
  cases hd with
  |cons k1 k2=>
   cases hz with
   |head=>exact⟨d,h1,k1⟩
   |tail _ hz=>exact vals_mem h2 k2 z hz
def BaseOk (X:Cx) (e0:AEnv) (σ:AS) (dl:List Pos) (g:GS):Prop:=∀p d,Tr.get p σ.tm=some d→p∉dl→d=.top∨∀e',Agr σ.nv e0 e'→∃d',Tr.get p g.tm=some d'∧gaD X e' d d'
theorem lchk_ok {a:LoopA} {n0:Nat} {B:Bd} {ads:List AD} {τ τ':AS} {s s':Scr} {r:Lin} (hc:lchk X a (mpOf n0 a.nv B) ads τ s=some (r,τ',s')) {e0 e1:AEnv} {σ:AS} {g0 g:GS} {dl:List Pos} (hn:σ.nv=n0) (hnv:n0≤a.nv)
 (h0:W X e0 σ g0) (hb:BaseOk X e0 σ dl g) (he:Agr n0 e0 e1) (hτ:Holds X e1 τ g) {ds:List GD} (hg:each (gval g.tm) (maps (fun z=>A.t z.1) a.tm)=some ds) (hd:Al (gaD X e1) ads ds):
 τ'=τ∧∃e2,Agr n0 e0 e2∧W X e2 (lhead a dl σ) g∧lv e1.ρ r=lv e2.ρ a.rank:=by
 unfold lchk at hc
 split at hc
 case h_2=>cases hc
 rename_i s1 h1
 split at hc
 case h_2=>cases hc
 rename_i s2 h2
 split at hc
 case h_2=>cases hc
 rename_i s3 h3
 split at hc
 case h_2=>cases hc
 rename_i r1 h4;rw[brec']at hc
 split at hc
 case isFalse=>cases hc
 rename_i h5
 cases hc
 have hag:Agr n0 e0 (penv n0 B e1):=he.trans (agr_penv n0 B e1);refine⟨rfl,penv n0 B e1,hag,fun eP hP=>?_,sb_lin (mpOf_ok hnv B e1 (.refl _ _)) h4⟩;have hP:Agr a.nv (penv n0 B e1) eP:=by
  have hP:Agr (lhead a dl σ).nv (penv n0 B e1) eP:=hP;unfold lhead at hP;rw[facts_nv]at hP;exact hP
 have hm:=mpOf_ok hnv B e1 hP;have h0P:=h0 eP (by rw[hn];exact hag.trans (hP.mono hnv));refine facts_ok ⟨?_,?_,?_,h0P.me,h0P.fa⟩ (ckF_ok hτ.fa hm h3)
 ·intro p d hp
  have hp:Tr.get p (sets a.tm (tops dl σ.tm))=some d:=hp;rcases sets_get hp with hp|hp
  ·exact .inr (vals_mem hg (ckDs_ok hτ.fa hm h1 hd) _ hp)
  ·rcases tops_get hp with hp|⟨hp1,hp2⟩
   ·exact .inl hp
   ·rcases hb p d hp2 hp1 with hb|hb
    ·exact .inl hb
    ·exact .inr (hb eP (by rw[hn];exact hag.trans (hP.mono hnv)))
 ·intro nm ao hf hon
  exact(ckOs_ok hτ.fa hm hτ.ob h2 _ (findO_in hf)).2 hon
 ·intro x y hx hy hxon hyon hxy
  have key:∀x,findO x a.ob≠none→eP.on x=true→∃z∈a.ob,z.1=x∧∃m,(mpOf n0 a.nv B).ho x=some (some m)∧findO m τ.ob≠none∧e1.on m=true∧eP.ν x=e1.ν m:=by
   intro x hx hon
   cases hf:findO x a.ob with
   |none=>exact absurd hf hx
   |some ao=>
    have hin:=findO_in hf;obtain⟨⟨q,k1,k2⟩,_⟩:=ckOs_ok hτ.fa hm hτ.ob h2 _ hin
    cases q with
    |none=>have:=hm.off _ k1;rw[hon]at this;cases this
    |some m=>
     obtain⟨j1,j2⟩:=hm.ho _ _ k1;exact⟨_,hin,rfl,m,k1,k2 m rfl,by rw[←j1];exact hon,j2⟩
  obtain⟨zx,ix,rfl,mx,x1,x2,x3,x4⟩:=key x hx hxon;obtain⟨zy,iy,rfl,my,y1,y2,y3,y4⟩:=key y hy hyon;have:mx=my:=hτ.inj mx my x2 y2 x3 y3 (by rw[←x4,←y4];exact hxy);subst this;exact apartN_ok h5 zx ix zy iy mx x1 y1
theorem lmatch_ok {a:LoopA} {n0:Nat} {τ τ':AS} {s s':Scr} {r:Lin} (hc:lmatch X a n0 τ s=some (r,τ',s')) {e0 e1:AEnv} {σ:AS} {g0 g:GS} {dl:List Pos} (hn:σ.nv=n0) (hnv:n0≤a.nv)
 (h0:W X e0 σ g0) (hb:BaseOk X e0 σ dl g) (he:Agr n0 e0 e1) (hnτ:n0≤τ.nv) (hτ:W X e1 τ g):
 ∃e1',Agr τ.nv e1 e1'∧Facts e1'.ρ τ'.fa∧∃e2,Agr n0 e0 e2∧W X e2 (lhead a dl σ) g∧lv e1'.ρ r=lv e2.ρ a.rank:=by
 unfold lmatch at hc
 split at hc
 case h_2=>cases hc
 rename_i ads h1
 split at hc
 case h_2=>cases hc
 rename_i ads1 τ1 s1 h2
 split at hc
 case h_2=>cases hc
 rename_i l s2;obtain⟨ds,k1,k2⟩:=avals_all hτ h1;obtain⟨b1,b2,b3,b4,e1',b5,b6⟩:=nbDs_ok hτ h2 k2;obtain⟨b7,b8⟩:=b6 e1' (.refl _ _);obtain⟨rfl,e2,c1,c2,c3⟩:=lchk_ok hc hn hnv h0 hb (he.trans (b5.mono hnτ)) b7 k1 b8;exact⟨e1',b5,b7.fa,e2,c1,c2,c3⟩
end
end Go.Proofs.YtiahijhpjloijaaGreat.V

namespace Go.Proofs.YtiahijhpjloijaaGreat.V
open Go
section
variable{X:Cx} {K0:TypeId→Option (List Nat)} {ct:Nat→Option Con} {lev:Nat} {O2:Oracle2}
theorem base_of {e:AEnv} {σ:AS} {g:GS} {dl:List Pos} (h:W X e σ g):BaseOk X e σ dl g:=by
 intro p d hp _
 by_cases hd:d=.top
 ·exact .inl hd
 ·exact .inr fun e' he=>(h e' he).tm p d hp|>.resolve_left hd
theorem base_next {e:AEnv} {σ:AS} {g g':GS} {dl:List Pos} (h:BaseOk X e σ dl g) (hk:∀p,p∉dl→Tr.get p g'.tm=Tr.get p g.tm):BaseOk X e σ dl g':=by
 intro p d hp hn;rcases h p d hp hn with h1|h1
 ·exact .inl h1
 ·refine .inr fun e' he=>?_
  obtain⟨d',h2,h3⟩:=h1 e' he;exact⟨d',by rw[hk p hn];exact h2,h3⟩
theorem lhead_nv (a:LoopA) (dl:List Pos) (σ:AS):(lhead a dl σ).nv=a.nv:=by unfold lhead;rw[facts_nv]
def BodyOk (X:Cx) (body:AS→Scr→RK) (f:GS→GOut):Prop:=∀e σ g l s s',W X e σ g→body σ s=some (l,s')→∃z∈l,∃g',f g=OutM z.1 g'∧NK X e σ.nv z g'
theorem aloop1_ok {body:AS→Scr→RK} {f:GS→GOut} (hb:BodyOk X body f) {dl:List Pos} (hf:∀p,p∉dl→∀g g',outS (f g)=some g'→Tr.get p g'.tm=Tr.get p g.tm) {n:Nat} (hn:FUEL-100≤n) {a:LoopA}:
 BodyOk X (aloop1 X body dl a) (giter f n):=by
 intro e σ g l s0 s' hW h;unfold aloop1 at h;rw[brec']at h
 split at h
 case isFalse=>cases h
 rename_i hnv;obtain⟨hnv,hsc⟩:=and2 hnv;rw[ble_iff]at hnv
 split at h
 case h_2=>cases h
 rename_i r τ s1 h1
 split at h
 case h_2=>cases h
 rename_i s2 h2;unfold aloop2 at h
 split at h
 case h_2=>cases h
 rename_i s3 h3
 split at h
 case h_2=>cases h
 rename_i l3 s4 h4
 have main:∀i g e2,BaseOk X e σ dl g→Agr σ.nv e e2→W X e2 (lhead a dl σ) g→(lv e2.ρ a.rank).toNat+1≤i→∃z∈l,∃g',giter f i g=OutM z.1 g'∧NK X e σ.nv z g':=by
  intro i
  induction i with
  |zero=>intro g e2 _ _ _ hr;omega
  |succ i ih=>
   intro g e2 hB he hP hr;obtain⟨z,hz,g1,k1,k2,e3,k3,k4⟩:=hb e2 _ g _ _ _ hP h4;rw[lhead_nv]at k2 k3;obtain⟨s5,s6,m1,h5,h6⟩:=mapS_all h z hz;obtain⟨kd,τz⟩:=z;have he3:Agr σ.nv e e3:=he.trans (k3.mono hnv);rw[giter_succ,k1]
   cases kd with
   |exit j=>
    have h5:some ([(Kd.exit j,τz)],s5)=some (m1,s6):=h5
    cases h5
    exact⟨_,h6 _ (List.mem_singleton.2 rfl),g1,rfl,Nat.le_trans hnv k2,e3,he3,k4⟩
   |ret=>
    have h5:some ([(Kd.ret,τz)],s5)=some (m1,s6):=h5
    cases h5
    exact⟨_,h6 _ (List.mem_singleton.2 rfl),g1,rfl,Nat.le_trans hnv k2,e3,he3,k4⟩
   |norm=>
    have h5:(match lmatch X a σ.nv τz s5 with
     |some (r,τ,s)=>match need τ.fa (lsub1 (lsub a.rank r)) s with
      |some s=>some (([]:List (Kd×AS)),s)
      |none=>none
     |none=>none)=some (m1,s6):=h5
    split at h5
    case h_2=>cases h5
    rename_i r1 τ1 s7 h7
    split at h5
    case h_2=>cases h5
    rename_i s8 h8;have hB1:=base_next hB fun p hp=>hf p hp g g1 (by rw[k1];rfl)
    obtain⟨e4,q1,q2,e5,q3,q4,q5⟩:=lmatch_ok h7 rfl hnv hW hB1 he3 (Nat.le_trans hnv k2) k4;have q6:=need_ok q2 h8;rw[lv_sub1,lv_sub,q5]at q6;have q7:lv e4.ρ a.rank=lv e2.ρ a.rank:=llt_ok hsc (k3.trans (q1.mono k2));have q8:=need_ok hP.holds.fa h3;rw[q7]at q6;have q9:=need_ok q4.holds.fa h3;exact ih g1 e5 hB1 q3 q4 (by omega)
 obtain⟨e4,q1,q2,e5,q3,q4,q5⟩:=lmatch_ok h1 rfl hnv hW (base_of hW) (.refl _ _) (Nat.le_refl _) hW;have q6:=need_ok q2 h2;rw[lv_sub,lv_K,q5]at q6;have q7:=need_ok q4.holds.fa h3;have q6:(0:Int)≤((FUEL-102:Nat):Int)-lv e5.ρ a.rank:=q6;have hF:FUEL=4611686018427387904:=rfl;exact main n g e5 (base_of hW) q3 q4 (by omega)
theorem amany_ok {as1:List LoopA} {bd:Lin→Lin} {e0 e1:AEnv} {σ:AS} {g0 g:GS} {dl:List Pos} (h0:W X e0 σ g0) (hb:BaseOk X e0 σ dl g) (he:Agr σ.nv e0 e1):∀{k:Nat} {τ:AS} {s s':Scr} {l:List Unit},σ.nv≤τ.nv→W X e1 τ g→amany X as1 σ.nv bd k τ s=some (l,s')→
 ∃x∈l,∃a∈as1,∃e4 e5 r,Agr τ.nv e1 e4∧Agr σ.nv e0 e5∧W X e5 (lhead a dl σ) g∧lv e4.ρ r=lv e5.ρ a.rank∧0≤lv e4.ρ (bd r)
 |0,τ,s,s',l,_,_,h=>by cases h
 |k+1,τ,s,s',l,hn,hW,h=>by
  have h:(match(generalizing:=false) s with
   | .n h::s=>match nth as1 h with
     |some a=>amany1 X σ.nv bd a τ s
     |none=>none
   | .x l::s=>match l with
     |z::_=>(Bool.rec none (asplit (.ge z.2) τ s (amany X as1 σ.nv bd k) (amany X as1 σ.nv bd k)) (llt τ.nv z.2):Option (List Unit×Scr))
     |[]=>none
   |_=>none)=some (l,s'):=h
  split at h
  ·split at h
   case h_2=>cases h
   rename_i a ha;rw[nth_eq]at ha;unfold amany1 at h;rw[brec']at h
   split at h
   case isFalse=>cases h
   rename_i hnv;rw[ble_iff]at hnv
   split at h
   case h_2=>cases h
   rename_i r τ1 s1 h1
   split at h
   case h_2=>cases h
   rename_i s2 h2
   cases h
   obtain⟨e4,q1,q2,e5,q3,q4,q5⟩:=lmatch_ok h1 rfl hnv h0 hb he hn hW;exact⟨(),List.mem_singleton.2 rfl,a,List.mem_of_getElem? ha,e4,e5,r,q1,q3,q4,q5,need_ok q2 h2⟩
  ·split at h
   case h_2=>cases h
   rename_i z _ _;rw[brec']at h
   split at h
   case isFalse=>cases h
   rename_i hl;refine asplit_ok (Q:=fun _=>∃a∈as1,∃e4 e5 r,Agr τ.nv e1 e4∧Agr σ.nv e0 e5∧W X e5 (lhead a dl σ) g∧lv e4.ρ r=lv e5.ρ a.rank∧0≤lv e4.ρ (bd r)) (t:=bv e1.ρ (.ge z.2)) hW (fun e' he'=>?_) h ?_ ?_
   ·show decide (0≤lv e'.ρ z.2)=decide (0≤lv e1.ρ z.2)
    rw[llt_ok hl he']
   ·intro τ' s1 s2 l1 _ hs hW' hr
    have:=amany_ok h0 hb he (by rw[hs.nv];exact hn) hW' hr;rw[hs.nv]at this;exact this
   ·intro τ' s1 s2 l1 _ hs hW' hr
    have:=amany_ok h0 hb he (by rw[hs.nv];exact hn) hW' hr;rw[hs.nv]at this;exact this
  ·cases h
theorem aloopM_ok {body:AS→Scr→RK} {f:GS→GOut} (hb:BodyOk X body f) {dl:List Pos} (hf:∀p,p∉dl→∀g g',outS (f g)=some g'→Tr.get p g'.tm=Tr.get p g.tm) {n:Nat} (hn:FUEL-100≤n):
 BodyOk X (aloopM X body dl) (giter f n):=by
 intro e σ g l s0 s' hW h;unfold aloopM at h
 split at h
 case h_2=>cases h
 split at h
 case h_2=>cases h
 rename_i as1 s1 h1
 split at h
 case h_2=>cases h
 rename_i us s2 h2;have main:∀i a g e2,a∈as1→BaseOk X e σ dl g→Agr σ.nv e e2→W X e2 (lhead a dl σ) g→(lv e2.ρ a.rank).toNat+1≤i→∃z∈l,∃g',giter f i g=OutM z.1 g'∧NK X e σ.nv z g':=by
  intro i
  induction i with
  |zero=>intro a g e2 _ _ _ _ hr;omega
  |succ i ih=>
   intro a g e2 ha hB he hP hr;obtain⟨sa,sb,ma,hma,hin⟩:=mapS_all h a ha;unfold aloopM2 at hma;rw[brec']at hma
   split at hma
   case isFalse=>cases hma
   rename_i hnv;obtain⟨hnv,hsc⟩:=and2 hnv;rw[ble_iff]at hnv
   split at hma
   case h_2=>cases hma
   rename_i s3 h3
   split at hma
   case h_2=>cases hma
   rename_i l3 s4 h4;obtain⟨z,hz,g1,k1,k2,e3,k3,k4⟩:=hb e2 _ g _ _ _ hP h4;rw[lhead_nv]at k2 k3;obtain⟨s5,s6,m1,h5,h6⟩:=mapS_all hma z hz;obtain⟨kd,τz⟩:=z;have he3:Agr σ.nv e e3:=he.trans (k3.mono hnv);rw[giter_succ,k1]
   cases kd with
   |exit j=>
    have h5:some ([(Kd.exit j,τz)],s5)=some (m1,s6):=h5
    cases h5
    exact⟨_,hin _ (h6 _ (List.mem_singleton.2 rfl)),g1,rfl,Nat.le_trans hnv k2,e3,he3,k4⟩
   |ret=>
    have h5:some ([(Kd.ret,τz)],s5)=some (m1,s6):=h5
    cases h5
    exact⟨_,hin _ (h6 _ (List.mem_singleton.2 rfl)),g1,rfl,Nat.le_trans hnv k2,e3,he3,k4⟩
   |norm=>
    have h5:(match amany X as1 σ.nv (fun r=>lsub1 (lsub a.rank r)) 8 τz s5 with
     |some (_,s)=>some (([]:List (Kd×AS)),s)
     |none=>none)=some (m1,s6):=h5
    split at h5
    case h_2=>cases h5
    rename_i us1 s7 h7;have hB1:=base_next hB fun p hp=>hf p hp g g1 (by rw[k1];rfl)
    obtain⟨_,_,a',ha',e4,e5,r1,q1,q3,q4,q5,q6⟩:=amany_ok hW hB1 he3 (Nat.le_trans hnv k2) k4 h7;rw[lv_sub1,lv_sub,q5]at q6;have q7:lv e4.ρ a.rank=lv e2.ρ a.rank:=llt_ok hsc (k3.trans (q1.mono k2));have q8:=need_ok hP.holds.fa h3;rw[q7]at q6;have h9:0≤lv e5.ρ a'.rank:=by
     obtain⟨sa2,sb2,ma2,hma2,_⟩:=mapS_all h a' ha';unfold aloopM2 at hma2;rw[brec']at hma2
     split at hma2
     case isFalse=>cases hma2
     split at hma2
     case h_2=>cases hma2
     rename_i s9 h9;exact need_ok q4.holds.fa h9
    exact ih a' g1 e5 ha' hB1 q3 q4 (by omega)
 obtain⟨_,_,a,ha,e4,e5,r,q1,q3,q4,q5,q6⟩:=amany_ok hW (base_of hW) (.refl _ _) (Nat.le_refl _) hW h2;rw[lv_sub,lv_K,q5]at q6;have h9:0≤lv e5.ρ a.rank:=by
  obtain⟨sa2,sb2,ma2,hma2,_⟩:=mapS_all h a ha;unfold aloopM2 at hma2;rw[brec']at hma2
  split at hma2
  case isFalse=>cases hma2
  split at hma2
  case h_2=>cases hma2
  rename_i s9 h9;exact need_ok q4.holds.fa h9
 have q6:(0:Int)≤((FUEL-102:Nat):Int)-lv e5.ρ a.rank:=q6;have hF:FUEL=4611686018427387904:=rfl;exact main n a g e5 ha (base_of hW) q3 q4 (by omega)
theorem aloop_ok {body:AS→Scr→RK} {f:GS→GOut} (hb:BodyOk X body f) {dl:List Pos} (hf:∀p,p∉dl→∀g g',outS (f g)=some g'→Tr.get p g'.tm=Tr.get p g.tm):∀(p n:Nat),FUEL-100+p≤n→
 BodyOk X (aloop X body dl p) (giter f n)
 |0,n,hn=>by intro e σ g l s s' hW h;cases h
 |p+1,n,hn=>by
  intro e σ g l s s' hW h;have h:(match(generalizing:=false) s with
   | .lp a::s=>aloop1 X body dl a σ s
   | .n _::s=>match body σ s with
     |some (l,s)=>mapS (fun z s=>match z.1 with| .norm=>aloop X body dl p z.2 s|k=>some ([(k,z.2)],s)) l s
     |none=>none
   | .x _::s=>aloopM X body dl σ s
   |_=>none)=some (l,s'):=h
  split at h
  ·exact aloop1_ok hb hf (by omega) e σ g l _ s' hW h
  ·split at h
   case h_2=>cases h
   rename_i m s1 h1;obtain⟨n,rfl⟩:∃k,n=k+1:=⟨n-1,by omega⟩;obtain⟨z,hz,g1,k1,k2,e1,k3,k4⟩:=hb e σ g _ _ _ hW h1;obtain⟨s5,s6,m2,h5,h6⟩:=mapS_all h z hz;obtain⟨kd,τ⟩:=z;rw[giter_succ,k1]
   cases kd with
   |norm=>
    obtain⟨z2,hz2,g2,q1,q2,e2,q3,q4⟩:=aloop_ok hb hf p n (by omega) e1 τ g1 m2 s5 s6 k4 h5;exact⟨z2,h6 z2 hz2,g2,q1,Nat.le_trans k2 q2,e2,k3.trans (q3.mono k2),q4⟩
   |exit j=>
    have h5:some ([(Kd.exit j,τ)],s5)=some (m2,s6):=h5
    cases h5
    exact⟨_,h6 _ (List.mem_singleton.2 rfl),g1,rfl,k2,e1,k3,k4⟩
   |ret=>
    have h5:some ([(Kd.ret,τ)],s5)=some (m2,s6):=h5
    cases h5
    exact⟨_,h6 _ (List.mem_singleton.2 rfl),g1,rfl,k2,e1,k3,k4⟩
  ·exact aloopM_ok hb hf (by omega) e σ g l _ s' hW h
  ·cases h
theorem aev_ok (hK:CmpOk X.P K0) (hct:∀f con,ct f=some con→con.lev<lev→ConOk X O2 f con) {n:Nat} (hn:FUEL≤n):∀k:K,BodyOk X (fun σ s=>aev X K0 ct lev k σ s) (gev X.P O2 n k)
 | .blk na l=>by
   intro e σ g m s s' hW h;have h:(match asteps X K0 ct lev false l σ s with
    |some (m,s)=>some (maps (fun z=>(Kd.norm,z)) m,s)
    |none=>none)=some (m,s'):=h
   split at h
   case h_2=>cases h
   rename_i m1 s1 h1
   cases h
   obtain⟨z,hz,g',k1,k2,e1,k3,k4⟩:=asteps_ok hK hct (⟨hW,fun hr=>by cases hr⟩:WF X false e σ g []) h1;refine⟨(.norm,z),by rw[maps_eq];exact List.mem_map_of_mem hz,g',?_,k2,e1,k3,k4.w⟩;show(Option.rec .no (fun s=>.norm s) (gsteps X.P O2 l g):GOut)=_;rw[k1];rfl
 | .dblk na l chk=>by
   intro e σ g m s s' hW h;have h:(match asteps X K0 ct lev true (maps (fun z=>z.2) l) {σ with ft:=[]} s with
    |some (m,s)=>(Bool.rec none (some (maps (fun z=>(Kd.norm,z)) m,s)) (all (fun z:AS=>aokF z.ob z.ft (len l) chk) m):RK)
    |none=>none)=some (m,s'):=h
   split at h
   case h_2=>cases h
   rename_i m1 s1 h1;rw[brec']at h
   split at h
   case isFalse=>cases h
   rename_i hall
   cases h
   have hW1:WF X true e {σ with ft:=[]} g []:=⟨fun e' he=>⟨(hW e' he).tm,(hW e' he).ob,(hW e' he).inj,(hW e' he).me,(hW e' he).fa⟩,fun _=>⟨fun e' he=>.nil,fun _ _ _ h=>by cases h⟩⟩;obtain⟨z,hz,g',fs',k1,k2,e1,k3,k4⟩:=astepsF_ok hK hct hW1 h1;refine⟨(.norm,z),by rw[maps_eq];exact List.mem_map_of_mem hz,g',?_,k2,e1,k3,k4.w⟩;show(match gstepsF X.P O2 l g []with
    |some (s',fs)=>(Bool.rec .no (.norm s') (gokF s'.hp fs (len l) chk):GOut)
    |none=>.no)=_
   rw[k1];simp only[];rw[aokF_ok k4.w.holds ((k4.ft rfl).1 e1 (.refl _ _)) (all_true hall z hz)];rfl
 | .seq a b=>by
   intro e σ g m s s' hW h;have h:(match aev X K0 ct lev a σ s with
    |some (m,s)=>mapS (fun z s=>match z.1 with| .norm=>aev X K0 ct lev b z.2 s|k=>some ([(k,z.2)],s)) m s
    |none=>none)=some (m,s'):=h
   split at h
   case h_2=>cases h
   rename_i m1 s1 h1;obtain⟨z,hz,g1,k1,k2,e1,k3,k4⟩:=aev_ok hK hct hn a e σ g m1 s s1 hW h1;obtain⟨s5,s6,m2,h5,h6⟩:=mapS_all h z hz;obtain⟨kd,τ⟩:=z;have hseq:gev X.P O2 n (.seq a b) g=GOut.rec (fun s=>gev X.P O2 n b s) (fun j s=>.exit j s) (fun s=>.ret s) .no (gev X.P O2 n a g):=rfl;rw[hseq,k1]
   cases kd with
   |norm=>
    obtain⟨z2,hz2,g2,q1,q2,e2,q3,q4⟩:=aev_ok hK hct hn b e1 τ g1 m2 s5 s6 k4 h5;exact⟨z2,h6 z2 hz2,g2,q1,Nat.le_trans k2 q2,e2,k3.trans (q3.mono k2),q4⟩
   |exit j=>
    have h5:some ([(Kd.exit j,τ)],s5)=some (m2,s6):=h5
    cases h5
    exact⟨_,h6 _ (List.mem_singleton.2 rfl),g1,rfl,k2,e1,k3,k4⟩
   |ret=>
    have h5:some ([(Kd.ret,τ)],s5)=some (m2,s6):=h5
    cases h5
    exact⟨_,h6 _ (List.mem_singleton.2 rfl),g1,rfl,k2,e1,k3,k4⟩
 | .cond c a b=>by
   intro e σ g m s s' hW h;have h:(match abool σ.tm c with
    |some t=>asplit t σ s (fun σ s=>aev X K0 ct lev a (aref c true σ) s) (fun σ s=>aev X K0 ct lev b (aref c false σ) s)
    |none=>none)=some (m,s'):=h
   split at h
   case h_2=>cases h
   rename_i t0 ht;obtain⟨t,h1,h2⟩:=bools_all hW ht;have hcel:gcel g.tm c=some (.v (.bool t)):=by
    unfold gsc at h1
    split at h1
    ·rename_i x hx
     rw[hx];unfold gC at h1
     split at h1
     ·rename_i u
      cases u<;>simp only[toC,Option.some.injEq,reduceCtorEq,C.bool.injEq]at h1
      rw[h1]
     ·cases h1
    ·cases h1
   have hcond:gev X.P O2 n (.cond c a b) g=Bool.rec (gev X.P O2 n b g) (gev X.P O2 n a g) t:=by
    show(match gcel g.tm c with
     |some (.v (.bool t))=>(Bool.rec (gev X.P O2 n b g) (gev X.P O2 n a g) t:GOut)
     |_=>.no)=_
    rw[hcel]
   rw[hcond];refine asplit_ok (Q:=fun z=>∃g',(Bool.rec (gev X.P O2 n b g) (gev X.P O2 n a g) t:GOut)=OutM z.1 g'∧NK X e σ.nv z g') (t:=t) hW h2 h ?_ ?_
   ·intro σ' s1 s2 l1 htt hs hW' hr
    subst htt;obtain⟨z,hz,g',q1,q2,q3⟩:=aev_ok hK hct hn a e _ g l1 s1 s2 (aref_ok hW' h1) hr;rw[(aref_same c true σ').1,hs.nv]at q2 q3;exact⟨z,hz,g',q1,q2,q3⟩
   ·intro σ' s1 s2 l1 htt hs hW' hr
    subst htt;obtain⟨z,hz,g',q1,q2,q3⟩:=aev_ok hK hct hn b e _ g l1 s1 s2 (aref_ok hW' h1) hr;rw[(aref_same c false σ').1,hs.nv]at q2 q3;exact⟨z,hz,g',q1,q2,q3⟩
 | .block id a=>by
   intro e σ g m s s' hW h;have h:(match aev X K0 ct lev a σ s with
    |some (m,s)=>some (maps (fun z=>match z.1 with| .exit j=>Bool.rec z (.norm,z.2) (Nat.beq j id)|_=>z) m,s)
    |none=>none)=some (m,s'):=h
   split at h
   case h_2=>cases h
   rename_i m1 s1 h1
   cases h
   obtain⟨z,hz,g1,k1,k2,e1,k3,k4⟩:=aev_ok hK hct hn a e σ g m1 s _ hW h1;have hbl:gev X.P O2 n (.block id a) g=GOut.rec (fun s=>.norm s) (fun j s=>Bool.rec (.exit j s) (.norm s) (Nat.beq j id)) (fun s=>.ret s) .no (gev X.P O2 n a g):=rfl;rw[hbl,k1];obtain⟨kd,τ⟩:=z;refine⟨_,by rw[maps_eq];exact List.mem_map_of_mem hz,g1,?_,?_⟩
   ·cases kd with
    |norm=>rfl
    |ret=>rfl
    |exit j=>
     show(Bool.rec (.exit j g1) (.norm g1) (Nat.beq j id):GOut)=OutM (Bool.rec (Kd.exit j,τ) (Kd.norm,τ) (Nat.beq j id):Kd×AS).1 g1
     cases Nat.beq j id<;>rfl
   ·have:∀z':Kd×AS,z'.2=τ→NK X e σ.nv z' g1:=by rintro ⟨_,_⟩ rfl;exact⟨k2,e1,k3,k4⟩
    apply this
    cases kd with
    |norm=>rfl
    |ret=>rfl
    |exit j=>
     show(Bool.rec (Kd.exit j,τ) (Kd.norm,τ) (Nat.beq j id):Kd×AS).2=τ
     cases Nat.beq j id<;>rfl
 | .loop a=>aloop_ok (aev_ok hK hct hn a) (fun p hp g g' h=>gev_other (k:=a) h hp) 70 n (by have hF:FUEL=4611686018427387904:=rfl;omega)
 | .exit id=>by
   intro e σ g m s s' hW h;have h:some ([(Kd.exit id,σ)],s)=some (m,s'):=h
   cases h
   exact⟨_,List.mem_singleton.2 rfl,g,rfl,Nat.le_refl _,e,.refl _ _,hW⟩
 | .ret=>by
   intro e σ g m s s' hW h;have h:some ([(Kd.ret,σ)],s)=some (m,s'):=h
   cases h
   exact⟨_,List.mem_singleton.2 rfl,g,rfl,Nat.le_refl _,e,.refl _ _,hW⟩
 | .skip=>by
   intro e σ g m s s' hW h;have h:some ([(Kd.norm,σ)],s)=some (m,s'):=h
   cases h
   exact⟨_,List.mem_singleton.2 rfl,g,rfl,Nat.le_refl _,e,.refl _ _,hW⟩
end
end Go.Proofs.YtiahijhpjloijaaGreat.V

namespace Go.Proofs.YtiahijhpjloijaaGreat.V
open Go
abbrev RUn:=Option (List Unit×Scr)
noncomputable def arv (τ:AS) (r:Rv):Option AD:=
 match r with
 | .tmp p=>aval τ.tm (.t p)
 | .cell p k ag=>match acel τ.tm (.t p)with
   |some (.loc nm off)=>match findO nm τ.ob with
    |some (.X _ cs)=>Bool.rec none (aasD ag (take k (drop off cs))) (Nat.beq (len (take k (drop off cs))) k)
    |_=>none
   |_=>none
noncomputable def afz1 (X:Cx) (σ:AS) (c:AC) (s:Scr):Option (AC×AS×Scr):=match c with| .own nm k m=>afr X 7 σ (.own nm k m) s|c=>some (c,σ,s)
noncomputable def afinD (X:Cx) (ds:List AD):AS→Scr→Option (List AD×AS×Scr):=
 List.rec (fun σ s=>some ([],σ,s)) (fun d _ ih σ s=>match d with
  | .ag l=>match afrs (afr X 7) l σ s with
    |some (l,σ,s)=>match ih σ s with|some (ds,σ,s)=>some (.ag l::ds,σ,s)|none=>none
    |none=>none
  | .one c=>match afz1 X σ c s with
    |some (c,σ,s)=>match ih σ s with|some (ds,σ,s)=>some (.one c::ds,σ,s)|none=>none
    |none=>none
  |d=>match ih σ s with|some (ds,σ,s)=>some (d::ds,σ,s)|none=>none) ds
noncomputable def aspl (k:AS→Scr→RUn) (ads:List AD):AS→Scr→RUn:=
 List.rec (fun σ s=>k σ s) (fun d _ ih σ s=>match d with
  | .one (.bool b)=>match s with
    | .n 0::s=>ih σ s
    | .n 1::s=>asplit b σ s ih ih
    |_=>none
  |_=>ih σ s) ads
noncomputable def xD (x:AX):AD:=match x with| .one c=>.one c| .ag l=>.ag l
noncomputable def patD (d:AD):List AD:=match d with| .tup l=>maps xD l|d=>[d]
noncomputable def ptrC (con:Con) (τ:AS):Option (List AC):=
 match con.ptr with
 |none=>some []
 |some (e0,_)=>match findO con.nv τ.ob with
  |some (.X e1 cs)=>Bool.rec none (some cs) (Nat.beq e0 e1)
  |_=>none
noncomputable def notPtr (con:Con) (mp:Mp) (z:Nat×AO):Bool:=
 Bool.rec false (Bool.rec false (match con.ptr with
  |none=>true
  |some _=>match mp.ho z.1 with|some (some m)=>Bool.rec true false (Nat.beq m con.nv)|_=>true) (Nat.ble con.nv z.1)) true
noncomputable def achk (X:Cx) (con:Con) (o:COut) (mp:Mp) (ads:List AD) (pcs:List AC) (τ:AS) (s:Scr):RUn:=
 match ckDs X τ.fa mp (patD o.d) ads s with
 |some s=>match ckCs X τ.fa mp (Option.rec [] (fun _=>o.pc) con.ptr) pcs s with
  |some s=>match ckOs X τ.fa mp τ.ob o.ob s with
   |some s=>match ckF τ.fa mp o.fa s with
    |some s=>Bool.rec none (some ([()],s)) (Bool.rec false (Bool.rec false (all (fun z:Nat×AO=>Bool.rec false (Nat.ble (Nat.succ z.1) o.nv) (notPtr con mp z)) o.ob) (apartN mp o.ob)) (Nat.ble con.nv o.nv))
    |none=>none
   |none=>none
  |none=>none
 |none=>none
noncomputable def aout0 (X:Cx) (con:Con) (ads:List AD) (τ:AS) (s:Scr):RUn:=
 match s with
 | .n j::s=>match nth con.outs j with
   |some o=>match nbDs ads τ s with
    |some (ads,τ,s)=>match ptrC con τ with
     |some pcs=>match nbs pcs τ s with
      |some (pcs,τ,s)=>match s with
       | .x l::s=>achk X con o (mpOf con.nv o.nv (bAs con.nv τ.ob o.ob (bCs con.nv (Option.rec [] (fun _=>o.pc) con.ptr) pcs (bDs con.nv (patD o.d) ads ⟨l,[],[]⟩)))) ads pcs τ s
       |_=>none
      |none=>none
     |none=>none
    |none=>none
   |none=>none
 |_=>none
noncomputable def aend (X:Cx) (con:Con) (kp:Bool) (b:Fn) (z:Kd×AS) (s:Scr):RUn:=
 match z.1 with
 | .exit _=>none
 |_=>match each (arv z.2) b.rs with
  |some ads=>match(Bool.rec (afinD X ads z.2 s) (some (ads,z.2,s)) kp:Option (List AD×AS×Scr))with
   |some (ads,τ,s)=>aspl (aout0 X con ads) ads τ s
   |none=>none
  |none=>none
noncomputable def apars (ps:List Pos):List AD→Tr AD→Option (Tr AD):=
 List.rec (fun ds tm=>List.rec (some tm) (fun _ _ _=>none) ds)
  (fun p _ ih ds tm=>List.rec none (fun d t _=>ih t (Tr.set p d tm)) ds) ps
noncomputable def ainit (con:Con) (tm:Tr AD):AS:=
 facts con.fa {tm:=tm,ob:=Option.rec [] (fun z=>[(con.nv,.X z.1 z.2)]) con.ptr,me:=con.me,fa:=.e,nf:=.h,nv:=Nat.succ con.nv,ft:=[]}
noncomputable def acheck (X:Cx) (K0:TypeId→Option (List Nat)) (ct:Nat→Option Con) (kp:Bool) (con:Con) (b:Fn) (s:Scr):Bool:=
 match apars b.ps (Option.rec con.ps (fun _=>.one (.loc con.nv 0)::con.ps) con.ptr) .e with
 |some tm=>match aev X K0 ct con.lev b.k (ainit con tm) s with
  |some (l,s)=>match mapS (aend X con kp b) l s with
   |some _=>true
   |none=>false
  |none=>false
 |none=>false
section
variable{X:Cx} {e:AEnv} {τ:AS} {g:GS}
theorem arv_ok (hW:W X e τ g) {r:Rv} {d:AD} (h:arv τ r=some d):∃d',grv g r=some d'∧∀e',Agr τ.nv e e'→gaD X e' d d':=by
 cases r with
 |tmp p=>
  have h:aval τ.tm (.t p)=some d:=h;exact vals_all hW h
 |cell p k ag=>
  simp only[arv]at h
  split at h
  case h_2=>cases h
  rename_i nm off hc
  split at h
  case h_2=>cases h
  rename_i e0 cs hf;rw[brec']at h
  split at h
  case isFalse=>cases h
  rename_i hb;obtain⟨x,h1,h2⟩:=cels_all hW hc;obtain⟨hon,hx⟩:=h2 e (.refl _ _);obtain⟨o,h3,gs,rfl,h4⟩:=hW.holds.ob nm _ hf hon;rw[take_eq,drop_eq]at h hb;have hal:∀e',Agr τ.nv e e'→Al (gaC X e') ((cs.drop off).take k) ((gs.drop off).take k):=by
   intro e' he;obtain⟨hon',hx'⟩:=h2 e' he;have hν:e'.ν nm=e.ν nm:=by rw[hx]at hx';injection hx' with h;exact h.symm
   obtain⟨o',h5,gs',h6,h7⟩:=(hW e' he).ob nm _ hf hon';rw[hν,h3]at h5
   cases h5
   cases h6
   exact(h7.drop off).take k
  obtain⟨d',h8,h9⟩:=aasD_ok h hal;refine⟨d',?_,h9⟩;have hgt:Tr.get p g.tm=some (.one (.loc (e.ν nm) off)):=by rw[←hx];exact gcel_val h1
  have hb':Nat.beq (len ((gs.drop off).take k)) k=true:=by rw[len_eq,←(hal e (.refl _ _)).len,←len_eq];exact hb
  simp only[grv,hgt,gobj_of h3,take_eq,drop_eq,h8,hb']
theorem arvs_ok (hW:W X e τ g):∀{rs:List Rv} {ads:List AD},each (arv τ) rs=some ads→∃ds,each (grv g) rs=some ds∧∀e',Agr τ.nv e e'→Al (gaD X e') ads ds
 |[],ads,h=>by rw[each_nil]at h;cases h;exact⟨[],rfl,fun _ _=>.nil⟩
 |r::rs,ads,h=>by
  rw[each_cons]at h
  split at h
  ·rename_i d hd
   split at h
   ·rename_i ads' hds
    cases h
    obtain⟨d',h1,h2⟩:=arv_ok hW hd;obtain⟨ds',h3,h4⟩:=arvs_ok hW hds;exact⟨d'::ds',by rw[each_cons,h1,h3],fun e' he=>.cons (h2 e' he) (h4 e' he)⟩
   ·cases h
  ·cases h
theorem gfin_ag {l:List G} {t:List GD} {hp:List GO}:gfin (.ag l::t) hp=match frs (frz 8) l hp with
 |some (hp,us)=>match gfin t hp with|some (hp,ds)=>some (hp,.ag (mapsV us)::ds)|none=>none
 |none=>none:=rfl
theorem notOwn {c:AC} {x:G} (hc:∀nm k m,c≠.own nm k m) (h:gaC X e c x):∀i k n,x≠.own i k n:=by
 rintro i k n rfl
 cases c with
 |own nm k m=>exact hc _ _ _ rfl
 |sl t ps n nm=>rcases h with⟨h,_⟩|⟨_,_,h,_⟩<;>cases h
 |int k x=>cases h
 |bool b=>cases h
 |str x=>obtain⟨l,h,_⟩:=h;cases h
 |un=>cases h
 |np=>cases h
 |nil=>cases h
 |loc nm off=>obtain⟨_,h⟩:=h;cases h
 |eloc nm k n off=>obtain⟨_,j,_,h⟩:=h;cases h
 |floc nm ix k off=>obtain⟨j,_,h⟩:=h;cases h
theorem gfz1_id {x:G} {hp:List GO} (h:∀i k n,x≠.own i k n):gfz1 x hp=some (hp,x):=by
 unfold gfz1
 split
 ·exact absurd rfl (h _ _ _)
 ·rfl
theorem afz1_ok {c c':AC} {e:AEnv} {σ σ':AS} {g:GS} {x:G} {s s':Scr} (hW:W X e σ g) (h:afz1 X σ c s=some (c',σ',s')) (hx:∀e',Agr σ.nv e e'→gaC X e' c x):
 ∃hp' y,gfz1 x g.hp=some (hp',y)∧σ.nv≤σ'.nv∧∃e1,Agr σ.nv e e1∧∀e',Agr σ'.nv e1 e'→Holds X e' σ' ⟨g.tm,hp'⟩∧gaC X e' c' y:=by
 unfold afz1 at h
 split at h
 ·rename_i nm k m
  obtain⟨hp1,u,f1,f2,f3,e1,f4,f5⟩:=afr_ok (n:=6) hW h (x:=x) hx;refine⟨hp1,.v u,?_,f2,e1,f4,f5⟩;rcases hx e (.refl _ _)with⟨_,q,_,rfl⟩|⟨_,rfl,_⟩
  ·show(match frz 8 g.hp (.own (e.ν nm) k q)with|some (hp,u)=>some (hp,G.v u)|none=>none)=_
   rw[f1]
  ·have f1:some (g.hp,U.nil)=some (hp1,u):=f1
   cases f1
   rfl
 ·rename_i hc
  cases h
  exact⟨g.hp,x,gfz1_id (notOwn (e:=e) hc (hx e (.refl _ _))),Nat.le_refl _,e,.refl _ _,fun e' he=>⟨hW e' he,hx e' he⟩⟩
theorem afinD_ok:∀{ads ads':List AD} {e:AEnv} {σ σ':AS} {g:GS} {ds:List GD} {s s':Scr},W X e σ g→afinD X ads σ s=some (ads',σ',s')→(∀e',Agr σ.nv e e'→Al (gaD X e') ads ds)→
 ∃hp' ds',gfin ds g.hp=some (hp',ds')∧σ.nv≤σ'.nv∧∃e1,Agr σ.nv e e1∧∀e',Agr σ'.nv e1 e'→Holds X e' σ' ⟨g.tm,hp'⟩∧Al (gaD X e') ads' ds'
 |[],ads',e,σ,σ',g,ds,s,s',hW,h,hd=>by
  have h:some (([]:List AD),σ,s)=some (ads',σ',s'):=h
  cases h
  cases hd e (.refl _ _)
  exact⟨g.hp,[],rfl,Nat.le_refl _,e,.refl _ _,fun e' he=>⟨hW e' he,.nil⟩⟩
 |a::ads,ads',e,σ,σ',g,ds,s,s',hW,h,hd=>by
  cases ds with
  |nil=>cases hd e (.refl _ _)
  |cons d ds=>
   have hd0:∀e',Agr σ.nv e e'→gaD X e' a d∧Al (gaD X e') ads ds:=fun e' he=>by
    cases hd e' he;exact⟨by assumption,by assumption⟩
   have other:∀l,d=.tup l→(match afinD X ads σ s with|some (ds,σ,s)=>some (a::ds,σ,s)|none=>none)=some (ads',σ',s')→
    ∃hp' ds',gfin (d::ds) g.hp=some (hp',ds')∧σ.nv≤σ'.nv∧∃e1,Agr σ.nv e e1∧∀e',Agr σ'.nv e1 e'→Holds X e' σ' ⟨g.tm,hp'⟩∧Al (gaD X e') ads' ds':=by
    intro l hl h;subst hl
    split at h
    case h_2=>cases h
    rename_i ads2 σ2 s2 h2
    cases h
    obtain⟨hp2,ds2,k1,k2,e2,k4,k5⟩:=afinD_ok hW h2 fun e' he=>(hd0 e' he).2
    refine⟨hp2,.tup l::ds2,?_,k2,e2,k4,fun e' he=>⟨(k5 e' he).1,.cons (hd0 e' (k4.trans (he.mono k2))).1 (k5 e' he).2⟩⟩;show(match gfin ds g.hp with|some (hp,ds)=>some (hp,GD.tup l::ds)|none=>none)=_;rw[k1]
   cases a with
   |top=>exact((hd0 e (.refl _ _)).1).elim
   |one c=>
    have h:(match afz1 X σ c s with
     |some (c,σ,s)=>match afinD X ads σ s with|some (ds,σ,s)=>some (AD.one c::ds,σ,s)|none=>none
     |none=>none)=some (ads',σ',s'):=h
    split at h
    case h_2=>cases h
    rename_i c1 σ1 s1 h1
    split at h
    case h_2=>cases h
    rename_i ads2 σ2 s2 h2
    cases h
    cases d with
    |ag _=>exact(hd0 e (.refl _ _)).1.elim
    |tup _=>exact(hd0 e (.refl _ _)).1.elim
    |one x=>
     obtain⟨hp1,y,f1,f2,e1,f4,f5⟩:=afz1_ok hW h1 (x:=x) fun e' he=>(hd0 e' he).1
     obtain⟨hp2,ds2,k1,k2,e2,k4,k5⟩:=afinD_ok (g:=⟨g.tm,hp1⟩) (e:=e1) (ds:=ds) (fun e' he=>(f5 e' he).1) h2 fun e' he=>(hd0 e' (f4.trans (he.mono f2))).2
     refine⟨hp2,.one y::ds2,?_,Nat.le_trans f2 k2,e2,f4.trans (k4.mono f2),fun e' he=>⟨(k5 e' he).1,.cons ?_ (k5 e' he).2⟩⟩
     ·show(match gfz1 x g.hp with
       |some (hp,g)=>match gfin ds hp with|some (hp,ds)=>some (hp,GD.one g::ds)|none=>none
       |none=>none)=_
      rw[f1];simp only[k1]
     ·exact(f5 e' (k4.trans (he.mono k2))).2
   |tup c=>
    cases d with
    |ag _=>exact(hd0 e (.refl _ _)).1.elim
    |one _=>exact(hd0 e (.refl _ _)).1.elim
    |tup l=>exact other l rfl h
   |ag l=>
    have h:(match afrs (afr X 7) l σ s with
     |some (c,σ,s)=>match afinD X ads σ s with|some (ds,σ,s)=>some (AD.ag c::ds,σ,s)|none=>none
     |none=>none)=some (ads',σ',s'):=h
    split at h
    case h_2=>cases h
    rename_i c1 σ1 s1 h1
    split at h
    case h_2=>cases h
    rename_i ads2 σ2 s2 h2
    cases h
    cases d with
    |one _=>exact(hd0 e (.refl _ _)).1.elim
    |tup _=>exact(hd0 e (.refl _ _)).1.elim
    |ag xs=>
     obtain⟨hp1,us,f1,⟨f2,f3,e1,f4,f5⟩,_⟩:=afrs_ok (fun a b c=>afr_ok (n:=6) a b c) hW h1 (xs:=xs) fun e' he=>(hd0 e' he).1
     obtain⟨hp2,ds2,k1,k2,e2,k4,k5⟩:=afinD_ok (g:=⟨g.tm,hp1⟩) (e:=e1) (ds:=ds) (fun e' he=>(f5 e' he).1) h2 fun e' he=>(hd0 e' (f4.trans (he.mono f2))).2
     refine⟨hp2,.ag (mapsV us)::ds2,?_,Nat.le_trans f2 k2,e2,f4.trans (k4.mono f2),fun e' he=>⟨(k5 e' he).1,.cons ?_ (k5 e' he).2⟩⟩
     ·rw[gfin_ag,f1]
      simp only[k1]
     ·show Al (gaC X e') _ (mapsV us)
      rw[mapsV_eq];exact(f5 e' (k4.trans (he.mono k2))).2
theorem aspl_ok {k:AS→Scr→RUn} {Q:Prop}:∀{ads:List AD} {ds:List GD} {τ:AS} {s s':Scr} {l:List Unit},W X e τ g→(∀e',Agr τ.nv e e'→Al (gaD X e') ads ds)→aspl k ads τ s=some (l,s')→
 (∀τ' s s' l,Same τ τ'→W X e τ' g→k τ' s=some (l,s')→∃x∈l,Q)→∃x∈l,Q
 |[],ds,τ,s,s',l,hW,hd,h,hk=>hk _ _ _ _ (.refl _) hW h
 |a::ads,ds,τ,s,s',l,hW,hd,h,hk=>by
  cases ds with
  |nil=>cases hd e (.refl _ _)
  |cons d ds=>
   have hd0:∀e',Agr τ.nv e e'→gaD X e' a d∧Al (gaD X e') ads ds:=fun e' he=>by
    cases hd e' he;exact⟨by assumption,by assumption⟩
   have h:(match(generalizing:=false) a with
    | .one (.bool b)=>match(generalizing:=false) s with
      | .n 0::s=>aspl k ads τ s
      | .n 1::s=>asplit b τ s (aspl k ads) (aspl k ads)
      |_=>none
    |_=>aspl k ads τ s)=some (l,s'):=h
   have nxt:∀{τ':AS} {s s' l},Same τ τ'→W X e τ' g→aspl k ads τ' s=some (l,s')→∃x∈l,Q:=by
    intro τ' s s' l hs hW' h';refine aspl_ok (ds:=ds) hW' (fun e' he=>(hd0 e' (by rw[hs.nv]at he;exact he)).2) h' fun τ2 s2 s3 l2 hs2 hW2 h2=>?_
    exact hk τ2 s2 s3 l2 ⟨hs2.tm.trans hs.tm,hs2.ob.trans hs.ob,hs2.nv.trans hs.nv,hs2.ft.trans hs.ft⟩ hW2 h2
   split at h
   ·rename_i b _
    split at h
    ·exact nxt (.refl _) hW h
    ·refine asplit_ok (Q:=fun _=>Q) (t:=bv e.ρ b) hW (fun e' he=>?_) h (fun τ' s1 s2 l1 _ hs hW' h'=>nxt hs hW' h') (fun τ' s1 s2 l1 _ hs hW' h'=>nxt hs hW' h')
     have k1:=(hd0 e (.refl _ _)).1;have k2:=(hd0 e' he).1
     cases d with
     |ag _=>exact k1.elim
     |tup _=>exact k1.elim
     |one x=>
      have k1:x=.v (.bool (bv e.ρ b)):=k1;have k2:x=.v (.bool (bv e'.ρ b)):=k2;rw[k1]at k2;injection k2 with k2;injection k2 with k2;exact k2.symm
    ·cases h
   ·exact nxt (.refl _) hW h
end
end Go.Proofs.YtiahijhpjloijaaGreat.V

namespace Go.Proofs.YtiahijhpjloijaaGreat.V
open Go
section
variable{X:Cx} {e:AEnv} {τ:AS} {g:GS}
noncomputable def oneD (ds:List GD):Option GD:=match ds with|[d]=>some d|ds=>match each gtoX ds with|some xs=>some (.tup xs)|none=>none
theorem patD_ok {eP:AEnv} {d:AD} {ds:List GD} (h:Al (gaD X eP) (patD d) ds) (hl:∀l,d=.tup l→l.length≠1):∃d',oneD ds=some d'∧gaD X eP d d':=by
 have sing:∀{d:AD},Al (gaD X eP) [d] ds→∃d',oneD ds=some d'∧gaD X eP d d':=by
  intro d h
  cases h with
  |cons h1 h2=>cases h2;exact⟨_,rfl,h1⟩
 have xs:∀{l:List AX} {ds:List GD},Al (gaD X eP) (maps xD l) ds→∃xs,each gtoX ds=some xs∧Al (gaX X eP) l xs:=by
  intro l
  induction l with
  |nil=>intro ds h;cases h;exact⟨[],rfl,.nil⟩
  |cons x l ih=>
   intro ds h;have h:Al (gaD X eP) (xD x::maps xD l) ds:=h
   cases h with
   |@cons _ d0 _ _ h1 h2=>
    obtain⟨ys,k1,k2⟩:=ih h2
    cases x with
    |one c=>cases d0 with
     |ag _=>exact h1.elim
     |tup _=>exact h1.elim
     |one y=>exact⟨.one y::ys,by rw[each_cons,k1];rfl,.cons h1 k2⟩
    |ag c=>cases d0 with
     |one _=>exact h1.elim
     |tup _=>exact h1.elim
     |ag y=>exact⟨.ag y::ys,by rw[each_cons,k1];rfl,.cons h1 k2⟩
 cases d with
 |one c=>exact sing h
 |ag c=>exact sing h
 |top=>exact sing h
 |tup l=>
  obtain⟨ys,k1,k2⟩:=xs h;have hlen:=h.len;have hl:=hl l rfl;refine⟨.tup ys,?_,k2⟩;have hds:ds.length≠1:=by
   rw[←hlen];show(maps xD l).length≠1;rw[maps_eq,List.length_map];exact hl
  unfold oneD
  split
  ·exact absurd rfl hds
  ·rw[k1]
theorem achk_ok {con:Con} {o:COut} {B:Bd} {ads:List AD} {pcs:List AC} {s s':Scr} {l:List Unit} (h:achk X con o (mpOf con.nv o.nv B) ads pcs τ s=some (l,s')) (hpl:∀l,o.d=.tup l→l.length≠1)
 (hW:Holds X e τ g) {ds:List GD} (hd:Al (gaD X e) ads ds)
 (hp:∀e0 cs,con.ptr=some (e0,cs)→e.on con.nv=true∧e.ν con.nv=0∧findO con.nv τ.ob≠none∧∃xs,g.hp[0]?=some (.ob e0 false xs)∧Al (gaC X e) pcs xs):
 ∃d,oneD ds=some d∧con.nv≤o.nv∧∃e1,Agr con.nv e e1∧(∀e',Agr o.nv e1 e'→PostH X e' o con d g.hp)∧∃x∈l,True:=by
 unfold achk at h
 split at h
 case h_2=>cases h
 rename_i s1 h1
 split at h
 case h_2=>cases h
 rename_i s2 h2
 split at h
 case h_2=>cases h
 rename_i s3 h3
 split at h
 case h_2=>cases h
 rename_i s4 h4;rw[brec']at h
 split at h
 case isFalse=>cases h
 rename_i h5
 cases h
 obtain⟨h5,h6⟩:=and2 h5;obtain⟨h6,h7⟩:=and2 h6;rw[ble_iff]at h5;have hm0:=mpOf_ok h5 B e (eP:=penv con.nv B e) (.refl _ _);obtain⟨d,k1,_⟩:=patD_ok (ckDs_ok hW.fa hm0 h1 hd) hpl;refine⟨d,k1,h5,penv con.nv B e,agr_penv _ _ _,fun eP hP=>?_,(),List.mem_singleton.2 rfl,trivial⟩;have hm:=mpOf_ok h5 B e hP;obtain⟨d2,k2,k3⟩:=patD_ok (ckDs_ok hW.fa hm h1 hd) hpl;rw[k1]at k2
 cases k2
 refine⟨ckF_ok hW.fa hm h4,k3,fun e0 cs hc=>?_,fun z hz=>?_,fun y hy z hz hyon hzon hyz=>?_⟩
 ·obtain⟨_,_,_,xs,q1,q2⟩:=hp e0 cs hc
  rw[hc]at h2;exact⟨xs,q1,ckCs_ok hW.fa hm h2 q2⟩
 ·have q0:=all_true h7 z hz
  obtain⟨q2,q1⟩:=and2 q0;rw[ble_iff]at q1;have q3:(Bool.rec false (match con.ptr with
   |none=>true
   |some _=>match(mpOf con.nv o.nv B).ho z.1 with|some (some m)=>(Bool.rec true false (Nat.beq m con.nv):Bool)|_=>true) (Nat.ble con.nv z.1):Bool)=true:=q2
  obtain⟨q4,q5⟩:=and2 q3;rw[ble_iff]at q4;obtain⟨⟨x,w1,w2⟩,w3⟩:=ckOs_ok hW.fa hm hW.ob h3 z hz;refine⟨q4,q1,fun hon=>⟨?_,w3 hon⟩⟩
  cases hc:con.ptr with
  |none=>exact .inl rfl
  |some zz=>
   obtain⟨e0,cs⟩:=zz;right;obtain⟨p1,p2,p3,_⟩:=hp e0 cs hc
   cases x with
   |none=>have:=hm.off _ w1;rw[hon]at this;cases this
   |some m=>
    obtain⟨j1,j2⟩:=hm.ho _ _ w1;rw[hc]at q5;simp only[w1]at q5;rw[brec']at q5
    split at q5
    ·cases q5
    ·rename_i hne
     intro h0;apply hne;rw[beq_iff];exact hW.inj m con.nv (w2 m rfl) p3 (by rw[←j1];exact hon) p1 (by rw[←j2,h0,p2])
 ·have key:∀z∈o.ob,eP.on z.1=true→∃m,(mpOf con.nv o.nv B).ho z.1=some (some m)∧findO m τ.ob≠none∧e.on m=true∧eP.ν z.1=e.ν m:=by
   intro z hz hon;obtain⟨⟨x,w1,w2⟩,_⟩:=ckOs_ok hW.fa hm hW.ob h3 z hz
   cases x with
   |none=>have:=hm.off _ w1;rw[hon]at this;cases this
   |some m=>
    obtain⟨j1,j2⟩:=hm.ho _ _ w1;exact⟨m,w1,w2 m rfl,by rw[←j1];exact hon,j2⟩
  obtain⟨my,y1,y2,y3,y4⟩:=key y hy hyon;obtain⟨mz,z1,z2,z3,z4⟩:=key z hz hzon;have:my=mz:=hW.inj my mz y2 z2 y3 z3 (by rw[←y4,←z4];exact hyz);subst this;exact apartN_ok h6 y hy z hz my y1 z1
def Post (X:Cx) (e:AEnv) (con:Con) (ds:List GD) (H:List GO):Prop:=
 ∃d,oneD ds=some d∧∃o∈con.outs,con.nv≤o.nv∧∃e1,Agr con.nv e e1∧∀e',Agr o.nv e1 e'→PostH X e' o con d H
def PtrI (con:Con) (e:AEnv):Prop:=con.ptr≠none→e.on con.nv=true∧e.ν con.nv=0
theorem aout0_ok {con:Con} (hot:∀o∈con.outs,∀l,o.d=.tup l→l.length≠1) {ads:List AD} {s s':Scr} {l:List Unit} (h:aout0 X con ads τ s=some (l,s')) (hW:W X e τ g) (hnv:con.nv<τ.nv) (hp:PtrI con e) {ds:List GD}
 (hd:∀e',Agr τ.nv e e'→Al (gaD X e') ads ds):∃x∈l,Post X e con ds g.hp:=by
 unfold aout0 at h
 split at h
 case h_2=>cases h
 rename_i j s1
 split at h
 case h_2=>cases h
 rename_i o ho
 split at h
 case h_2=>cases h
 rename_i ads1 τ1 s2 h1
 split at h
 case h_2=>cases h
 rename_i pcs h2
 split at h
 case h_2=>cases h
 rename_i pcs1 τ2 s3 h3
 split at h
 case h_2=>cases h
 rename_i gl s4;rw[nth_eq]at ho;obtain⟨b1,b2,b3,b4,e1,b5,b6⟩:=nbDs_ok hW h1 hd;have hW1:W X e1 τ1 g:=fun e' he=>(b6 e' he).1
 have hpc:∃xs,∀e',Agr τ1.nv e1 e'→Al (gaC X e') pcs xs∧∀e0 cs,con.ptr=some (e0,cs)→findO con.nv τ1.ob≠none∧g.hp[0]?=some (.ob e0 false xs):=by
  unfold ptrC at h2
  split at h2
  ·rename_i hc
   cases h2
   exact⟨[],fun e' he=>⟨.nil,fun e0 cs h=>by rw[hc]at h;cases h⟩⟩
  ·rename_i e0 cs0 hc
   split at h2
   case h_2=>cases h2
   rename_i e2 cs hf;rw[brec']at h2
   split at h2
   case isFalse=>cases h2
   rename_i hee;rw[beq_iff]at hee;subst hee
   cases h2
   obtain⟨p1,p2⟩:=hp (by rw[hc];exact fun h=>by cases h);have at0:∀e',Agr τ1.nv e1 e'→∃xs,g.hp[0]?=some (.ob e0 false xs)∧Al (gaC X e') pcs xs:=by
    intro e' he;obtain⟨_,q2,q3,_⟩:=(b5.trans (he.mono b1)) con.nv hnv;obtain⟨x,k1,gs,rfl,k2⟩:=(hW1 e' he).ob con.nv _ hf (by rw[q3];exact p1);rw[q2,p2]at k1;exact⟨gs,k1,k2⟩
   obtain⟨xs,k1,k2⟩:=at0 e1 (.refl _ _);refine⟨xs,fun e' he=>⟨?_,fun e3 cs3 h3=>?_⟩⟩
   ·obtain⟨xs',k3,k4⟩:=at0 e' he
    rw[k1]at k3
    cases k3
    exact k4
   ·rw[hc]at h3;cases h3
    exact⟨(by rw[hf];exact fun h=>by cases h),k1⟩
 obtain⟨xs,hx⟩:=hpc;obtain⟨c1,c2,c3,c4,e2,c5,c6⟩:=nbs_ok hW1 h3 fun e' he=>(hx e' he).1
 obtain⟨c7,c8⟩:=c6 e2 (.refl _ _);have hag:Agr τ.nv e e2:=b5.trans (c5.mono b1);obtain⟨d,k1,k2,e3,k3,k4,x,k5,_⟩:=achk_ok h (hot o (List.mem_of_getElem? ho)) c7 (ds:=ds) (b6 e2 c5).2 fun e0 cs hc=>by
  obtain⟨p1,p2⟩:=hp (by rw[hc];exact fun h=>by cases h);obtain⟨_,q2,q3,_⟩:=hag con.nv hnv;obtain⟨r1,r2⟩:=(hx e2 c5).2 e0 cs hc;exact⟨by rw[q3];exact p1,by rw[q2];exact p2,by rw[c3];exact r1,xs,r2,c8⟩
 exact⟨x,k5,d,k1,o,List.mem_of_getElem? ho,k2,e3,(hag.mono (Nat.le_of_lt hnv)).trans k3,k4⟩
theorem Post.agr {e':AEnv} {con:Con} {ds:List GD} {H:List GO} (h:Agr con.nv e e') (k:Post X e' con ds H):Post X e con ds H:=by
 obtain⟨d,k1,o,k2,k3,e1,k4,k5⟩:=k;exact⟨d,k1,o,k2,k3,e1,h.trans k4,k5⟩
theorem PtrI.agr {e':AEnv} {con:Con} {n:Nat} (h:Agr n e e') (hn:con.nv<n) (k:PtrI con e):PtrI con e':=fun hc=>by
 obtain⟨p1,p2⟩:=k hc;obtain⟨_,q2,q3,_⟩:=h con.nv hn;exact⟨by rw[q3];exact p1,by rw[q2];exact p2⟩
noncomputable def gres (kp:Bool) (f:Fn) (s:GS):Option (List GO×List GD):=
 match each (grv s) f.rs with
 |some ds=>(Bool.rec (gfin ds s.hp) (some (s.hp,ds)) kp:Option (List GO×List GD))
 |none=>none
theorem gends_eq (kp:Bool) (f:Fn) (s:GS) {hp:List GO} {ds:List GD} {d:GD} (h:gres kp f s=some (hp,ds)) (hd:oneD ds=some d):gends kp f s=some (d,hp):=by
 unfold gres at h
 split at h
 case h_2=>cases h
 rename_i ds0 h0;unfold gends;rw[h0];simp only[];rw[h];unfold oneD at hd
 cases ds with
 |nil=>cases hd;rfl
 |cons a t=>
  cases t with
  |nil=>cases hd;rfl
  |cons b t=>
   simp only[]at hd⊢
   cases hx:each gtoX (a::b::t)with
   |none=>rw[hx]at hd;cases hd
   |some xs=>rw[hx]at hd;cases hd;rfl
theorem aend_ok {con:Con} (hot:∀o∈con.outs,∀l,o.d=.tup l→l.length≠1) {kp:Bool} {b:Fn} {z:Kd×AS} {s s':Scr} {l:List Unit} (h:aend X con kp b z s=some (l,s')) (hW:W X e z.2 g) (hnv:con.nv<z.2.nv) (hp:PtrI con e):
 (∀j,z.1≠.exit j)∧∃hp ds,gres kp b g=some (hp,ds)∧Post X e con ds hp:=by
 obtain⟨kd,τ⟩:=z;have core:(match each (arv τ) b.rs with
  |some ads=>match(Bool.rec (afinD X ads τ s) (some (ads,τ,s)) kp:Option (List AD×AS×Scr))with
   |some (ads,τ,s)=>aspl (aout0 X con ads) ads τ s
   |none=>none
  |none=>none)=some (l,s')→∃hp ds,gres kp b g=some (hp,ds)∧Post X e con ds hp:=by
  intro h
  split at h
  case h_2=>cases h
  rename_i ads h1
  split at h
  case h_2=>cases h
  rename_i ads2 τ2 s2 h2;obtain⟨ds,k1,k2⟩:=arvs_ok hW h1;have fin:∃hp' ds',gres kp b g=some (hp',ds')∧τ.nv≤τ2.nv∧∃e1,Agr τ.nv e e1∧∀e',Agr τ2.nv e1 e'→Holds X e' τ2 ⟨g.tm,hp'⟩∧Al (gaD X e') ads2 ds':=by
   unfold gres;rw[k1]
   cases kp with
   |true=>
    cases h2
    exact⟨g.hp,ds,rfl,Nat.le_refl _,e,.refl _ _,fun e' he=>⟨hW e' he,k2 e' he⟩⟩
   |false=>exact afinD_ok hW h2 k2
  obtain⟨hp',ds',q1,q2,e1,q3,q4⟩:=fin;refine⟨hp',ds',q1,?_⟩;have hW2:W X e1 τ2 ⟨g.tm,hp'⟩:=fun e' he=>(q4 e' he).1
  obtain⟨_,_,hQ⟩:=aspl_ok (Q:=Post X e1 con ds' hp') (ds:=ds') hW2 (fun e' he=>(q4 e' he).2) h fun τ3 s3 s4 l3 hs hW3 h3=>by
   have hn3:con.nv<τ3.nv:=by rw[hs.nv];exact Nat.lt_of_lt_of_le hnv q2
   exact aout0_ok hot h3 hW3 hn3 (hp.agr q3 hnv) fun e' he=>(q4 e' (by rw[hs.nv]at he;exact he)).2
  exact hQ.agr (q3.mono (Nat.le_of_lt hnv))
 cases kd with
 |exit j=>cases h
 |norm=>exact⟨fun j hj=>(by cases hj),core h⟩
 |ret=>exact⟨fun j hj=>(by cases hj),core h⟩
end
end Go.Proofs.YtiahijhpjloijaaGreat.V

namespace Go.Proofs.YtiahijhpjloijaaGreat.V
open Go
section
variable{X:Cx}
theorem gpars_len:∀{ps:List Pos} {ds:List GD} {tm:Tr GD},ps.length=ds.length→∃tm',gpars ps ds tm=some tm'
 |[],[],tm,_=>⟨tm,rfl⟩
 |[],_::_,tm,h=>by cases h
 |_::_,[],tm,h=>by cases h
 |p::ps,d::ds,tm,h=>gpars_len (ps:=ps) (ds:=ds) (tm:=Tr.set p d tm) (by simpa using h)
theorem apars_len:∀{ps:List Pos} {ds:List AD} {tm tm':Tr AD},apars ps ds tm=some tm'→ps.length=ds.length
 |[],[],tm,tm',_=>rfl
 |[],_::_,tm,tm',h=>by cases h
 |_::_,[],tm,tm',h=>by cases h
 |p::ps,d::ds,tm,tm',h=>by
  have:=apars_len (ps:=ps) (ds:=ds) (tm:=Tr.set p d tm) h;simp[this]
theorem pars_get {e:AEnv}:∀{ps:List Pos} {ads:List AD} {ds:List GD} {tm tm':Tr AD} {gt gt':Tr GD},Al (gaD X e) ads ds→apars ps ads tm=some tm'→gpars ps ds gt=some gt'→
 (∀p d,Tr.get p tm=some d→d=.top∨∃d',Tr.get p gt=some d'∧gaD X e d d')→∀p d,Tr.get p tm'=some d→d=.top∨∃d',Tr.get p gt'=some d'∧gaD X e d d'
 |[],_,_,tm,tm',gt,gt',.nil,h,h',hb=>by
  have h:some tm=some tm':=h;have h':some gt=some gt':=h'
  cases h;cases h';exact hb
 |[],_,_,tm,tm',gt,gt',.cons _ _,h,h',hb=>by cases h
 |p::ps,_,_,tm,tm',gt,gt',.nil,h,h',hb=>by cases h
 |p::ps,_,_,tm,tm',gt,gt',.cons (x:=a) (y:=d) (l:=ads) (m:=ds) h1 h2,h,h',hb=>by
  have h:apars ps ads (Tr.set p a tm)=some tm':=h;have h':gpars ps ds (Tr.set p d gt)=some gt':=h';refine pars_get h2 h h' fun q x hq=>?_
  rw[Tr.get_set]at hq⊢
  split at hq
  ·rename_i hpq
   cases hq
   rw[if_pos hpq];exact .inr ⟨_,rfl,h1⟩
  ·rename_i hpq
   rw[if_neg hpq];exact hb q x hq
theorem TrE {α:Type}:∀p:Pos,Tr.get p (Tr.e:Tr α)=none
 | .h=>rfl
 | .o p=>rfl
 | .i p=>rfl
def ptrE (con:Con) (e:AEnv):AEnv:={e with ν:=fun v=>if v=con.nv then 0 else e.ν v,on:=fun v=>if v=con.nv then true else e.on v}
theorem acheck_ok {K0:TypeId→Option (List Nat)} {ct:Nat→Option Con} {kp:Bool} {con:Con} {b:Fn} {s:Scr} {O2:Oracle2} {m:Nat} (hK:CmpOk X.P K0) (hct:∀f c,ct f=some c→c.lev<con.lev→ConOk X O2 f c) (hm:FUEL≤m)
 (hot:∀o∈con.outs,∀l,o.d=.tup l→l.length≠1) (h:acheck X K0 ct kp con b s=true):
 ∀e ds H,(∀e',Agr con.nv e e'→PreH X e' con ds H)→∃d H',gbody X.P O2 m kp b (withP con.ptr ds) H=some (d,H')∧∃o∈con.outs,con.nv≤o.nv∧∃e1,Agr con.nv e e1∧∀e',Agr o.nv e1 e'→PostH X e' o con d H':=by
 intro e ds H hpre;unfold acheck at h
 split at h
 case h_2=>cases h
 rename_i tm htm
 split at h
 case h_2=>cases h
 rename_i l s1 h1
 split at h
 case h_2=>cases h
 rename_i z0 h2;obtain⟨m0,s2⟩:=z0;have hagE:Agr con.nv e (ptrE con e):=fun v hv=>⟨rfl,by show(if v=con.nv then 0 else e.ν v)=_;rw[if_neg (by omega)],by show(if v=con.nv then true else e.on v)=_;rw[if_neg (by omega)],rfl⟩
 have at0:∀e',Agr (con.nv+1) (ptrE con e) e'→e'.on con.nv=true∧e'.ν con.nv=0∧PreH X e' con ds H:=by
  intro e' he;obtain⟨_,q2,q3,_⟩:=he con.nv (by omega);refine⟨?_,?_,hpre e' (hagE.trans (he.mono (by omega)))⟩
  ·rw[q3];show(if con.nv=con.nv then true else _)=true;rw[if_pos rfl]
  ·rw[q2];show(if con.nv=con.nv then 0 else _)=0;rw[if_pos rfl]
 have hpar:∀e',Agr (con.nv+1) (ptrE con e) e'→Al (gaD X e') (Option.rec con.ps (fun _=>.one (.loc con.nv 0)::con.ps) con.ptr:List AD) (withP con.ptr ds):=by
  intro e' he;obtain⟨p1,p2,p3⟩:=at0 e' he
  cases hc:con.ptr with
  |none=>exact p3.ps
  |some z=>
   refine .cons ?_ p3.ps;show e'.on con.nv=true∧G.loc 0 0=.loc (e'.ν con.nv) 0;rw[p1,p2];exact⟨rfl,rfl⟩
 obtain⟨gt,hgt⟩:=gpars_len (ps:=b.ps) (ds:=withP con.ptr ds) (tm:=.e) ((apars_len htm).trans (hpar _ (.refl _ _)).len);have hnv:(ainit con tm).nv=con.nv+1:=by unfold ainit;rw[facts_nv]
 have hW:W X (ptrE con e) (ainit con tm) ⟨gt,H⟩:=by
  intro e' he;rw[hnv]at he;obtain⟨p1,p2,p3⟩:=at0 e' he;unfold ainit;refine facts_ok ⟨?_,?_,?_,p3.me,fun p x hp=>(by rw[TrE]at hp;cases hp)⟩ p3.fa
  ·exact pars_get (hpar e' he) htm hgt fun p d hp=>(by rw[TrE]at hp;cases hp)
  ·intro nm ao hf hon
   have p4:=p3.ptr
   cases hc:con.ptr with
   |none=>rw[hc]at hf;cases hf
   |some z=>
    obtain⟨e0,cs⟩:=z;rw[hc]at hf p4;obtain⟨gs,q1,q2⟩:=p4;have hf2:findO nm [(con.nv,AO.X e0 cs)]=some ao:=hf;rw[findO_cons]at hf2
    split at hf2
    ·rename_i hnm
     subst hnm
     cases hf2
     refine⟨.ob e0 false gs,?_,gs,rfl,q2⟩;show H[e'.ν con.nv]?=_;rw[p2,q1];rfl
    ·cases hf2
  ·intro x y hx hy _ _ _
   cases hc:con.ptr with
   |none=>rw[hc]at hx;exact absurd rfl hx
   |some z=>
    obtain⟨e0,cs⟩:=z;rw[hc]at hx hy;have one:∀w,findO w [(con.nv,AO.X e0 cs)]≠none→w=con.nv:=by
     intro w hw;rw[findO_cons]at hw
     split at hw
     ·rename_i hh;exact hh.symm
     ·exact absurd rfl hw
    rw[one x hx,one y hy]
 obtain⟨z,hz,g',k1,k2,e1,k3,k4⟩:=aev_ok hK hct hm b.k _ _ _ _ _ _ hW h1;rw[hnv]at k2 k3;have hpi:PtrI con (ptrE con e):=fun _=>⟨(at0 _ (.refl _ _)).1,(at0 _ (.refl _ _)).2.1⟩
 obtain⟨s3,s4,m1,h5,_⟩:=mapS_all h2 z hz;obtain⟨r1,hp,dsR,r2,r3⟩:=aend_ok hot h5 k4 (Nat.lt_of_lt_of_le (Nat.lt_succ_self _) k2) (hpi.agr k3 (Nat.lt_succ_self _));obtain⟨d,w1,o,w2,w3,e2,w4,w5⟩:=r3.agr (hagE.trans (k3.mono (Nat.le_succ _)));refine⟨d,hp,?_,o,w2,w3,e2,w4,w5⟩;have hge:=gends_eq kp b g' r2 w1;unfold gbody;rw[hgt];simp only[];rw[k1];obtain⟨kd,τ⟩:=z
 cases kd with
 |norm=>exact hge
 |ret=>exact hge
 |exit j=>exact absurd rfl (r1 j)
end
structure AllOk (X:Cx) (K0:TypeId→Option (List Nat)) (F:Nat→Option Fn) (kp:Nat→Bool) (m:Nat) (Cs:Nat→Con→Prop) (XO:Oracle2→Oracle2):Prop where
 fn:∀f con,Cs f con→
  (∃ct b s,(∀g c,ct g=some c→Cs g c)∧F f=some b∧(∀o∈con.outs,∀l,o.d=.tup l→l.length≠1)∧acheck X K0 ct (kp f) con b s=true)∨
  (F f=none∧∀O,ConOk X (XO O) f con)∨
  ((∀g c,Cs g c→c.lev<con.lev→∀n,c.lev<n→ConOk X (gden X.P F XO kp m n) g c)→∀n,con.lev<n→ConOk X (gden X.P F XO kp m n) f con)
theorem con_ok {X:Cx} {K0:TypeId→Option (List Nat)} {F:Nat→Option Fn} {kp:Nat→Bool} {Cs:Nat→Con→Prop} {XO:Oracle2→Oracle2} {m:Nat} (hK:CmpOk X.P K0) (hm:FUEL≤m) (h:AllOk X K0 F kp m Cs XO):
 ∀N f con,Cs f con→con.lev<N→∀n,con.lev<n→ConOk X (gden X.P F XO kp m n) f con:=by
 intro N
 induction N with
 |zero=>intro f con _ hl;omega
 |succ N ih=>
  intro f con hc hl n hn;rcases h.fn f con hc with⟨ct,b,s,hct,hf,hot,hch⟩|⟨hf,ho⟩|hh
  ·obtain⟨n,rfl⟩:∃k,n=k+1:=⟨n-1,by omega⟩
   intro e ds H hpre;show∃d H',(match F f with|some b=>gbody X.P (gden X.P F XO kp m n) m (kp f) b (withP con.ptr ds) H|none=>_)=some (d,H')∧_;rw[hf];exact acheck_ok hK (fun f c hcf hlt=>ih f c (hct f c hcf) (by omega) n (by omega)) hm hot hch e ds H hpre
  ·obtain⟨n,rfl⟩:∃k,n=k+1:=⟨n-1,by omega⟩
   intro e ds H hpre;show∃d H',(match F f with|some b=>_|none=>XO (gden X.P F XO kp m n) f (withP con.ptr ds) H)=some (d,H')∧_;rw[hf];exact ho _ e ds H hpre
  ·exact hh (fun g c hg hlt n' hn'=>ih g c hg (by omega) n' hn') n hn
end Go.Proofs.YtiahijhpjloijaaGreat.V

