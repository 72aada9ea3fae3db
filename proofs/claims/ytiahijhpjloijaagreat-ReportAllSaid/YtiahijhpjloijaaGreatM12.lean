/- Parts of the proof, put together: R6, R7, R8, R9, R10. -/
import Derived.Test.YtiahijhpjloijaaGreatM11
set_option linter.unusedVariables false
set_option linter.unusedSimpArgs false
namespace Go.Proofs.YtiahijhpjloijaaGreat.V
open Go
abbrev Ress:=Option (List (AD×AS)×Scr)
noncomputable def mapC (l:Option (List (AC×AS)×Scr)):Ress:=match l with|some (l,s)=>some (maps (fun z=>(.one z.1,z.2)) l,s)|none=>none
noncomputable def d1 (d:AD) (σ:AS) (s:Scr):Ress:=some ([(d,σ)],s)
noncomputable def aref (c:A) (b:Bool) (σ:AS):AS:=match c with| .t p=>{σ with tm:=Tr.set p (.one (.bool (Bool.rec .ff .tt b))) σ.tm}|_=>σ
noncomputable def vret (a:A) (σ:AS) (s:Scr):Ress:=match aval σ.tm a with|some d=>d1 d σ s|none=>none
noncomputable def apick (c a b:A) (σ:AS) (s:Scr):Ress:=
 match abool σ.tm c with
 |some t=>asplit t σ s (fun σ s=>vret a (aref c true σ) s) (fun σ s=>vret b (aref c false σ) s)
 |none=>none
noncomputable def aasD (ag:Bool) (l:List AC):Option AD:=Bool.rec (match l with|[c]=>some (.one c)|_=>none) (some (.ag l)) ag
noncomputable def afill (tm:Tr AD) (zs:List AC) (ps:List (Nat×Nat×A)):Option (List AC):=
 List.rec (fun zs=>some zs) (fun p _ ih zs=>
  match p with
  |(off,k,a)=>match acells tm a with
   |some l=>Bool.rec none (ih (splice l off zs)) (Bool.rec false (Nat.ble (off+k) (len zs)) (Nat.beq (len l) k))
   |none=>none) ps zs
noncomputable def amn (mx:Bool) (k:IntKind) (a b:Lin) (σ:AS) (s:Scr):Ress:=
 asplit (.ge (lsub b a)) σ s (fun σ s=>d1 (.one (.int k (Bool.rec a b mx))) σ s) (fun σ s=>d1 (.one (.int k (Bool.rec b a mx))) σ s)
noncomputable def ckd (c:AC):Option Nat:=match c with| .int k _=>some (kn k)| .str _=>some 8| .bool _=>some 9|_=>none
noncomputable def eqKs (l m:List Nat):Bool:=leq l m
noncomputable def opk (op:BinOp) (k j:IntKind):Bool:=match op with| .shr=>true|_=>Nat.beq (kn k) (kn j)
noncomputable def isEq (op:BinOp):Bool:=match op with| .eql| .neq=>true|_=>false
noncomputable def abin1 (X:Cx) (K:TypeId→Option (List Nat)) (op:BinOp) (t:TypeId) (x y:AD) (σ:AS) (s:Scr):Ress:=
 match x,y with
 | .one (.int k a),.one (.int j b)=>mapC (Bool.rec none (aibin op k a b σ s) (opk op k j))
 | .one (.str a),.one (.str b)=>match op with
   | .add=>match need σ.fa (lsub (lK 65535) (ladd a b)) s with|some s=>d1 (.one (.str (ladd a b))) σ s|none=>none
   | .eql=>mapC (abool1 σ s)
   | .neq=>mapC (abool1 σ s)
   |_=>none
 | .ag a,.ag b=>match K t,each ckd a,each ckd b with
   |some ks,some ka,some kb=>Bool.rec none (mapC (abool1 σ s)) (Bool.rec false (Bool.rec false (eqKs ks kb) (eqKs ks ka)) (isEq op))
   |_,_,_=>none
 |_,_=>none
noncomputable def ard0 (X:Cx) (K:TypeId→Option (List Nat)) (i:I) (σ:AS) (s:Scr):Ress:=
 match i with
 | .mv x=>vret x σ s
 | .pick c a b=>apick c a b σ s
 | .bld zs ps=>match each cAC zs with
   |some gs=>match afill σ.tm gs ps with|some l=>d1 (.ag l) σ s|none=>none
   |none=>none
 | .fd off k ag x=>match aval σ.tm x with
   |some (.ag l)=>match take k (drop off l)with
    |l=>Bool.rec none (match aasD ag l with|some d=>d1 d σ s|none=>none) (Nat.beq (len l) k)
   |_=>none
 | .nilc x=>match acel σ.tm x with
   |some (.loc nm off)=>d1 (.one (.loc nm off)) σ s
   |some (.eloc nm k n off)=>d1 (.one (.eloc nm k n off)) σ s
   |some (.floc nm ix k off)=>d1 (.one (.floc nm ix k off)) σ s
   |_=>none
 | .fa o x=>match acel σ.tm x with
   |some (.loc nm off)=>d1 (.one (.loc nm (off+o))) σ s
   |some (.eloc nm k n off)=>d1 (.one (.eloc nm k n (off+o))) σ s
   |some (.floc nm ix k off)=>d1 (.one (.floc nm ix k (off+o))) σ s
   |_=>none
 | .iaa n k x ix=>match acel σ.tm x,aint σ.tm ix with
   |some (.loc nm off),some (_,(.ofNat j,[]))=>Bool.rec none (d1 (.one (.loc nm (off+j*k))) σ s) (Nat.ble (Nat.succ j) n)
   |some (.eloc nm k0 m off),some (_,(.ofNat j,[]))=>Bool.rec none (d1 (.one (.eloc nm k0 m (off+j*k))) σ s) (Nat.ble (Nat.succ j) n)
   |some (.floc nm i0 k0 off),some (_,(.ofNat j,[]))=>Bool.rec none (d1 (.one (.floc nm i0 k0 (off+j*k))) σ s) (Nat.ble (Nat.succ j) n)
   |_,_=>none
 | .ixs x ix=>match acel σ.tm x,aint σ.tm ix with
   |some (.str a),some (_,j)=>match needs σ.fa [j,lsub1 (lsub a j)] s with
    |some s=>match fresh (fun v=>[v,lsub (lK 255) v]) σ with|(v,σ')=>d1 (.one (.int .u8 v)) σ' s
    |none=>none
   |_,_=>none
 | .sls x lo hi=>match acel σ.tm x with
   |some (.str a)=>
    match(match hi with|none=>some a|some h=>match aint σ.tm h with|some (_,h)=>some h|none=>none),(match lo with|none=>some (lK 0)|some l=>match aint σ.tm l with|some (_,l)=>some l|none=>none)with
    |some h,some l=>match needs σ.fa [l,lsub h l,lsub a h] s with
     |some s=>d1 (.one (.str (lsub h l))) σ s
     |none=>none
    |_,_=>none
   |_=>none
 | .ex x ix=>match aval σ.tm x with
   |some (.tup l)=>match nth l ix with
    |some (.one c)=>d1 (.one c) σ s
    |some (.ag l)=>d1 (.ag l) σ s
    |none=>none
   |_=>none
 | .len false x=>match acel σ.tm x with
   |some (.own _ _ n)=>d1 (.one (.int .i64 n)) σ s
   |some (.sl _ _ n _)=>d1 (.one (.int .i64 n)) σ s
   |some .nil=>d1 (.one (.int .i64 (lK 0))) σ s
   |_=>none
 | .len true x=>match acel σ.tm x with
   |some (.str n)=>d1 (.one (.int .i64 n)) σ s
   |_=>none
 | .bin op t x y=>match aval σ.tm x,aval σ.tm y with
   |some a,some b=>abin1 X K op t a b σ s
   |_,_=>none
 | .beq x y=>match abool σ.tm x,abool σ.tm y with
   |some _,some _=>mapC (abool1 σ s)
   |_,_=>none
 | .not x=>match abool σ.tm x with|some b=>d1 (.one (.bool (beNot b))) σ s|none=>none
 | .cvi k x=>match aint σ.tm x with|some (_,a)=>mapC (arith k a σ s)|none=>none
 | .mn x y=>match aint σ.tm x,aint σ.tm y with|some (k,a),some (_,b)=>amn false k a b σ s|_,_=>none
 | .mx x y=>match aint σ.tm x,aint σ.tm y with|some (k,a),some (_,b)=>amn true k a b σ s|_,_=>none
 |_=>none
def CmpOk (P:Program) (K:TypeId→Option (List Nat)):Prop:=∀t ks,K t=some ks→∀(a b:List C) op,(op=.eql∨op=.neq)→
 (∀l:List C,(l=a∨l=b)→Al (fun c k=>(∃kd n,c=.int kd n∧k=kn kd)∨(∃l,c=.str l∧k=8)∨(∃b,c=.bool b∧k=9)) l ks)→∃r,abin P op t a b=some (.bool r)
section
variable{X:Cx} {e:AEnv} {σ:AS} {g:GS} {K:TypeId→Option (List Nat)}
def OpsR (X:Cx) (e:AEnv) (σ:AS) (g:GS) (i:I) (l:List (AD×AS)):Prop:=∃d' hp',grd X.P i g.tm g.hp=some (d',hp')∧∃z∈l,OpR X e σ g d' hp' z
theorem mapC_ok {o:Option (List (AC×AS)×Scr)} {l:List (AD×AS)} {s':Scr} (h:mapC o=some (l,s')):∃m,o=some (m,s')∧l=m.map fun z=>(.one z.1,z.2):=by
 unfold mapC at h
 split at h
 ·rename_i m s1
  cases h
  exact⟨m,rfl,maps_eq _ _⟩
 ·cases h
theorem cr_map {g':G} {m:List (AC×AS)} (h:CR X e σ g g' m):∃z∈m.map (fun z=>((AD.one z.1,z.2):AD×AS)),OpR X e σ g (.one g') g.hp z:=by
 obtain⟨z,hz,hq⟩:=h;exact⟨_,List.mem_map.2 ⟨z,hz,rfl⟩,hq⟩
theorem opsR_cr {i:I} {g':G} {o:Option (List (AC×AS)×Scr)} {l:List (AD×AS)} {s':Scr} (hg:grd X.P i g.tm g.hp=some (.one g',g.hp)) (h:mapC o=some (l,s')) (hc:∀m,o=some (m,s')→CR X e σ g g' m):OpsR X e σ g i l:=by
 obtain⟨m,h1,h2⟩:=mapC_ok h;subst h2;exact⟨_,_,hg,cr_map (hc m h1)⟩
theorem opsR_d1 {i:I} {d:AD} {d':GD} {σ':AS} {s s':Scr} {l:List (AD×AS)} (hs:Same σ σ') (hW:W X e σ' g) (h:d1 d σ' s=some (l,s')) (hg:grd X.P i g.tm g.hp=some (d',g.hp)) (hd:∀e',Agr σ.nv e e'→gaD X e' d d'):OpsR X e σ g i l:=by
 cases h
 exact⟨_,_,hg,_,List.mem_cons_self,opR_pure hs hW hd⟩
theorem tt_ok (b:Bool):gaC X e (.bool (Bool.rec .ff .tt b)) (.v (.bool b)):=by cases b<;>rfl
theorem aref_ok {c:A} {b:Bool} (hW:W X e σ g) (hc:gsc g.tm c=some (.bool b)):W X e (aref c b σ) g:=by
 intro e' he
 cases c with
 |c d=>exact hW e' he
 |t p=>
  have h:=hW e' he;refine⟨fun q x hq=>?_,h.ob,h.inj,h.me,h.fa⟩;have hq2:Tr.get q (Tr.set p (.one (.bool (Bool.rec .ff .tt b))) σ.tm)=some x:=hq;clear hq;rw[Tr.get_set]at hq2
  split at hq2
  ·rename_i hpq
   subst hpq
   cases hq2
   right;have:∃y,gcel g.tm (.t p)=some y∧gC y=some (.bool b):=by
    unfold gsc at hc
    split at hc
    ·exact⟨_,by assumption,hc⟩
    ·cases hc
   obtain⟨y,hy,hyb⟩:=this;refine⟨.one y,gcel_val hy,?_⟩;show gaC X e' (.bool (Bool.rec .ff .tt b)) y;unfold gC at hyb
   split at hyb
   ·rename_i u
    cases u<;>simp only[toC,reduceCtorEq,Option.some.injEq,C.bool.injEq]at hyb
    subst hyb;exact tt_ok _
   ·cases hyb
  ·exact h.tm q x hq2
theorem aref_same (c:A) (b:Bool) (σ:AS):(aref c b σ).nv=σ.nv∧(aref c b σ).ft=σ.ft:=by cases c<;>exact⟨rfl,rfl⟩
theorem vals_all {a:A} {d:AD} (hW:W X e σ g) (h:aval σ.tm a=some d):∃d',gval g.tm a=some d'∧∀e',Agr σ.nv e e'→gaD X e' d d':=by
 obtain⟨d',h1,_⟩:=aval_ok hW.holds h;refine⟨d',h1,fun e' he=>?_⟩;obtain⟨d2,h3,h4⟩:=aval_ok (hW e' he) h;rw[h1]at h3;cases h3;exact h4
theorem cels_all {a:A} {c:AC} (hW:W X e σ g) (h:acel σ.tm a=some c):∃x,gcel g.tm a=some x∧∀e',Agr σ.nv e e'→gaC X e' c x:=by
 obtain⟨d',h1,_⟩:=acel_ok hW.holds h;refine⟨d',h1,fun e' he=>?_⟩;obtain⟨d2,h3,h4⟩:=acel_ok (hW e' he) h;rw[h1]at h3;cases h3;exact h4
theorem ints_all {a:A} {k:IntKind} {x:Lin} (hW:W X e σ g) (h:aint σ.tm a=some (k,x)):∃n,gsc g.tm a=some (.int k n)∧∀e',Agr σ.nv e e'→lv e'.ρ x=n:=by
 refine⟨_,aint_ok hW.holds h,fun e' he=>?_⟩;have:=aint_ok (hW e' he) h;rw[aint_ok hW.holds h]at this;injection this with this
 injection this with _ this
 exact this.symm
theorem bools_all {a:A} {b:BE} (hW:W X e σ g) (h:abool σ.tm a=some b):∃t,gsc g.tm a=some (.bool t)∧∀e',Agr σ.nv e e'→bv e'.ρ b=t:=by
 refine⟨_,abool_ok hW.holds h,fun e' he=>?_⟩;have:=abool_ok (hW e' he) h;rw[abool_ok hW.holds h]at this;injection this with this
 injection this with this
 exact this.symm
theorem cells_all {a:A} {l:List AC} (hW:W X e σ g) (h:acells σ.tm a=some l):∃m,gcells g.tm a=some m∧∀e',Agr σ.nv e e'→Al (gaC X e') l m:=by
 obtain⟨d',h1,_⟩:=acells_ok hW.holds h;refine⟨d',h1,fun e' he=>?_⟩;obtain⟨d2,h3,h4⟩:=acells_ok (hW e' he) h;rw[h1]at h3;cases h3;exact h4
theorem OpR.after {σ1:AS} (hs:σ1.nv=σ.nv) (hf:σ1.ft=σ.ft) {d':GD} {hp':List GO} {z:AD×AS} (h:OpR X e σ1 g d' hp' z):OpR X e σ g d' hp' z:=by
 obtain⟨h1,h2,e1,h3,h4⟩:=h;exact⟨by omega,h2.trans hf,e1,by rw[←hs];exact h3,h4⟩
theorem str_of {e:AEnv} {x:Lin} {y:G} (h:gaC X e (.str x) y):∃l,y=.v (.str l)∧(l.length:Int)=lv e.ρ x∧∀b∈l,b<256:=h
theorem strs_all {a:A} {x:Lin} (hW:W X e σ g) (h:acel σ.tm a=some (.str x)):∃l,gcel g.tm a=some (.v (.str l))∧gsc g.tm a=some (.str l)∧(∀b∈l,b<256)∧∀e',Agr σ.nv e e'→(l.length:Int)=lv e'.ρ x:=by
 obtain⟨y,h1,h2⟩:=cels_all hW h;obtain⟨l,rfl,h3,h4⟩:=h2 e (.refl _ _);refine⟨l,h1,by unfold gsc;rw[h1];rfl,h4,fun e' he=>?_⟩;obtain⟨l',h5,h6,_⟩:=h2 e' he
 cases h5;exact h6
theorem afill_ok (hW:W X e σ g):∀{ps:List (Nat×Nat×A)} {zs l:List AC} {zs':List G},afill σ.tm zs ps=some l→(∀e',Agr σ.nv e e'→Al (gaC X e') zs zs')→∃l',gfill g.tm zs' ps=some l'∧∀e',Agr σ.nv e e'→Al (gaC X e') l l'
 |[],zs,l,zs',h,hz=>by have h:some zs=some l:=h;cases h;exact⟨zs',rfl,hz⟩
 |(off,k,a)::ps,zs,l,zs',h,hz=>by
  have h:(match acells σ.tm a with
   |some l=>(Bool.rec none (afill σ.tm (splice l off zs) ps) (Bool.rec false (Nat.ble (off+k) (len zs)) (Nat.beq (len l) k):Bool):Option (List AC))
   |none=>none)=some l:=h
  show∃l',(match gcells g.tm a with
   |some l=>(Bool.rec none (gfill g.tm (splice l off zs') ps) (Bool.rec false (Nat.ble (off+k) (len zs')) (Nat.beq (len l) k):Bool):Option (List G))
   |none=>none)=some l'∧_
  split at h
  ·rename_i m hm
   obtain⟨m',e1,r⟩:=cells_all hW hm;rw[e1];simp only[];have hzl:=(hz e (.refl _ _)).len;have hrl:=(r e (.refl _ _)).len;rw[brec']at h⊢;rw[len_eq,len_eq,←hzl,←hrl];rw[len_eq,len_eq]at h
   split at h
   ·rename_i hb
    rw[if_pos hb];rw[brec']at hb
    split at hb
    ·rename_i hk
     rw[beq_iff]at hk;rw[ble_iff]at hb;exact afill_ok hW h fun e' he=>(hz e' he).splice (r e' he) (by omega)
    ·cases hb
   ·cases h
  ·cases h
theorem gbnd_of {tm:Tr GD} {a:A} {k:IntKind} {h n:Nat} {d:Nat} (ha:gsc tm a=some (.int k (h:Int))) (hn:h≤n):gbnd tm (some a) d n=some h:=by
 simp only[gbnd,ha];show idx (Int.ofNat h) (Nat.succ n)=some h;show(Bool.rec none (some h) (Nat.ble (Nat.succ h) (Nat.succ n)):Option Nat)=some h;have:Nat.ble (Nat.succ h) (Nat.succ n)=true:=by rw[ble_iff];omega
 rw[this]
theorem int_nat {n:Int} (h:0≤n):∃m:Nat,n=(m:Int):=⟨n.toNat,by omega⟩
theorem idx_of {j n:Nat} (h:j<n):idx (j:Int) n=some j:=by
 show(Bool.rec none (some j) (Nat.ble (Nat.succ j) n):Option Nat)=some j;have:Nat.ble (Nat.succ j) n=true:=by rw[ble_iff];omega
 rw[this]
theorem aasD_ok {ag:Bool} {l:List AC} {l':List G} {d:AD} (h:aasD ag l=some d) (hl:∀e',Agr σ.nv e e'→Al (gaC X e') l l'):∃d',gasD ag l'=some d'∧∀e',Agr σ.nv e e'→gaD X e' d d':=by
 cases ag with
 |true=>have h:some (AD.ag l)=some d:=h;cases h;exact⟨.ag l',rfl,hl⟩
 |false=>
  cases l with
  |nil=>cases h
  |cons c t=>
   cases t with
   |cons _ _=>cases h
   |nil=>
    have h:some (AD.one c)=some d:=h
    cases h
    cases l' with
    |nil=>cases hl e (.refl _ _)
    |cons x t=>cases t with
     |nil=>exact⟨.one x,rfl,fun e' he=>by cases hl e' he;assumption⟩
     |cons _ _=>cases hl e (.refl _ _)with|cons _ h2=>cases h2
theorem ckd_ok {l:List AC} {ks:List Nat} (h:each ckd l=some ks) {m:List G} (hm:Al (gaC X e) l m):∃cs,each gC m=some cs∧Al (fun c k=>(∃kd n,c=.int kd n∧k=kn kd)∨(∃l,c=.str l∧k=8)∨(∃b,c=.bool b∧k=9)) cs ks:=by
 induction l generalizing ks m with
 |nil=>cases hm;rw[each_nil]at h;cases h;exact⟨[],rfl,.nil⟩
 |cons c l ih=>
  cases hm with
  |@cons _ x _ m' h1 h2=>
   rw[each_cons]at h
   split at h
   case h_2=>cases h
   rename_i k hk
   split at h
   case h_2=>cases h
   rename_i ks' hks
   cases h
   obtain⟨cs,h3,h4⟩:=ih hks h2;have:∃c',gC x=some c'∧((∃kd n,c'=.int kd n∧k=kn kd)∨(∃l,c'=.str l∧k=8)∨(∃b,c'=.bool b∧k=9)):=by
    cases c<;>simp only[ckd,Option.some.injEq,reduceCtorEq]at hk
    case int kd n=>have h1:x=.v (.int kd _):=h1;subst h1;exact⟨_,rfl,.inl ⟨kd,_,rfl,hk.symm⟩⟩
    case bool b=>have h1:x=.v (.bool _):=h1;subst h1;exact⟨_,rfl,.inr (.inr ⟨_,rfl,hk.symm⟩)⟩
    case str n=>obtain⟨s,rfl,_⟩:=h1;exact⟨_,rfl,.inr (.inl ⟨_,rfl,hk.symm⟩)⟩
   obtain⟨c',h5,h6⟩:=this;exact⟨c'::cs,by rw[each_cons,h5,h3],.cons h6 h4⟩
theorem leq_ok:∀{l m:List Nat},leq l m=true→l=m
 |[],[],_=>rfl
 |[],_::_,h=>by cases h
 |_::_,[],h=>by cases h
 |x::l,y::m,h=>by
  have h:(Bool.rec false (leq l m) (Nat.beq x y):Bool)=true:=h;rw[brec']at h
  split at h
  ·rename_i hxy;rw[beq_iff]at hxy;rw[hxy,leq_ok h]
  ·cases h
theorem grd_int {op:BinOp} {t:TypeId} {x y:A} {k j:IntKind} {a b:Int} {c:C} {u:U} (hx:gval g.tm x=some (.one (.v (.int k a)))) (hy:gval g.tm y=some (.one (.v (.int j b)))) (hc:cbin op (.int k a) (.int j b)=some c) (hu:cU c=some u):
 grd X.P (.bin op t x y) g.tm g.hp=some (.one (.v u),g.hp):=by
 simp only[grd,hx,hy,gC,toC,hc,s1,cG,hu]
theorem abin1_ok (hK:CmpOk X.P K) (hW:W X e σ g) {op:BinOp} {t:TypeId} {x y:A} {a b:AD} {l:List (AD×AS)} {s s':Scr} (hx:aval σ.tm x=some a) (hy:aval σ.tm y=some b) (h:abin1 X K op t a b σ s=some (l,s')):OpsR X e σ g (.bin op t x y) l:=by
 obtain⟨x',hx1,hx2⟩:=vals_all hW hx;obtain⟨y',hy1,hy2⟩:=vals_all hW hy;have hx0:=hx2 e (.refl _ _);have hy0:=hy2 e (.refl _ _);unfold abin1 at h
 split at h
 ·rename_i k a j b
  cases x' with
  |ag _=>exact hx0.elim
  |tup _=>exact hx0.elim
  |one x'=>
   cases y' with
   |ag _=>exact hy0.elim
   |tup _=>exact hy0.elim
   |one y'=>
    have hx0:x'=.v (.int k (lv e.ρ a)):=hx0;have hy0:y'=.v (.int j (lv e.ρ b)):=hy0;subst hx0;subst hy0;have ha:∀e',Agr σ.nv e e'→lv e'.ρ a=lv e.ρ a:=fun e' he=>by
     have:G.v (.int k (lv e.ρ a))=.v (.int k (lv e'.ρ a)):=hx2 e' he;injection this with this;injection this with _ this;exact this.symm
    have hb:∀e',Agr σ.nv e e'→lv e'.ρ b=lv e.ρ b:=fun e' he=>by
     have:G.v (.int j (lv e.ρ b))=.v (.int j (lv e'.ρ b)):=hy2 e' he;injection this with this;injection this with _ this;exact this.symm
    obtain⟨m,h1,rfl⟩:=mapC_ok h;rw[brec']at h1
    split at h1
    case isFalse=>cases h1
    rename_i hop;rcases aibin_ok hW ha hb h1 with⟨rfl,hb0,hcr⟩|⟨hne,c,u,hc,hu,hcr⟩
    ·have hlt:ilt (lv e.ρ b) 0=false:=by rw[ilt_eq];exact decide_eq_false (by omega)
     have hcb:cbin .shr (.int k (lv e.ρ a)) (.int j (lv e.ρ b))=some (.int k (Int.fdiv (lv e.ρ a) (2^min (lv e.ρ b).toNat k.bits))):=by
      show(Bool.rec (some (.int k (Int.fdiv (lv e.ρ a) (2^min (lv e.ρ b).toNat k.bits)))) none (ilt (lv e.ρ b) 0):Option C)=_;rw[hlt]
     exact⟨_,_,grd_int hx1 hy1 hcb rfl,cr_map (hcr _)⟩
    ·have hkj:Nat.beq (kn k) (kn j)=true:=by
      cases op<;>first|exact hop|exact absurd rfl hne
     have hcb:cbin op (.int k (lv e.ρ a)) (.int j (lv e.ρ b))=some c:=by
      have:cbin op (.int k (lv e.ρ a)) (.int j (lv e.ρ b))=(Bool.rec none (ibin op k (lv e.ρ a) (lv e.ρ b)) (Nat.beq (kn k) (kn j)):Option C):=by
       cases op<;>first|rfl|exact absurd rfl hne
      rw[this,hkj];exact hc
     exact⟨_,_,grd_int hx1 hy1 hcb hu,cr_map hcr⟩
 ·rename_i a b
  cases x' with
  |ag _=>exact hx0.elim
  |tup _=>exact hx0.elim
  |one x'=>
   cases y' with
   |ag _=>exact hy0.elim
   |tup _=>exact hy0.elim
   |one y'=>
    obtain⟨l1,rfl,n1,b1⟩:=str_of (X:=X) hx0;obtain⟨l2,rfl,n2,b2⟩:=str_of (X:=X) hy0;have fin:∀{c:C} {u:U},cbin op (.str l1) (.str l2)=some c→cU c=some u→grd X.P (.bin op t x y) g.tm g.hp=some (.one (.v u),g.hp):=by
     intro c u hc hu;simp only[grd,hx1,hy1,gC,toC,hc,s1,cG,hu]
    split at h
    ·split at h
     case h_2=>cases h
     rename_i s1 hs1;have hn:=need_ok hW.holds.fa hs1;rw[lv_sub,lv_K,lv_add]at hn;have hle:Nat.ble (len l1+len l2) 65535=true:=by rw[ble_iff,len_eq,len_eq];omega
     have hcb:cbin .add (.str l1) (.str l2)=some (.str (app l1 l2)):=by
      show(Bool.rec none (some (.str (app l1 l2))) (Nat.ble (len l1+len l2) 65535):Option C)=_;rw[hle]
     refine opsR_d1 (.refl _) hW h (fin hcb rfl) fun e' he=>?_
     obtain⟨l1',q1,m1,_⟩:=str_of (X:=X) (hx2 e' he);obtain⟨l2',q2,m2,_⟩:=str_of (X:=X) (hy2 e' he)
     cases q1;cases q2
     refine⟨app l1 l2,rfl,?_,fun b hb=>?_⟩
     ·rw[app_eq,List.length_append,lv_add,←m1,←m2];omega
     ·rw[app_eq,List.mem_append]at hb
      rcases hb with hb|hb
      ·exact b1 b hb
      ·exact b2 b hb
    ·exact opsR_cr (fin (c:=.bool (leq l1 l2)) rfl rfl) h fun m hm=>abool1_ok hW hm
    ·exact opsR_cr (fin (c:=.bool (not (leq l1 l2))) rfl rfl) h fun m hm=>abool1_ok hW hm
    ·cases h
 ·rename_i a b
  cases x' with
  |one _=>exact hx0.elim
  |tup _=>exact hx0.elim
  |ag x'=>
   cases y' with
   |one _=>exact hy0.elim
   |tup _=>exact hy0.elim
   |ag y'=>
    split at h
    case h_2=>cases h
    rename_i ks ka kb hks hka hkb;rw[brec']at h
    split at h
    case isFalse=>cases h
    rename_i hb;rw[brec']at hb
    split at hb
    case isFalse=>cases hb
    rename_i hop;rw[brec']at hb
    split at hb
    case isFalse=>cases hb
    rename_i hea;have ea:=leq_ok hea;have eb:=leq_ok hb;subst ea;subst eb;obtain⟨ca,p1,p2⟩:=ckd_ok hka hx0;obtain⟨cb,p3,p4⟩:=ckd_ok hkb hy0;have hop':op=.eql∨op=.neq:=by
     cases op<;>first|exact .inl rfl|exact .inr rfl|cases hop
    obtain⟨r,hr⟩:=hK t _ hks ca cb op hop' (by rintro l (rfl|rfl);exact p2;exact p4);refine opsR_cr (g':=.v (.bool r)) ?_ h fun m hm=>abool1_ok hW hm
    simp only[grd,hx1,hy1,p1,p3,hr,s1,cG,cU]
 ·cases h
theorem vret_ok {σ1:AS} {a:A} {l:List (AD×AS)} {s s':Scr} (hs1:σ1.nv=σ.nv) (hf1:σ1.ft=σ.ft) (hW:W X e σ1 g) (h:vret a σ1 s=some (l,s')):∃d',gval g.tm a=some d'∧∃z∈l,OpR X e σ g d' g.hp z:=by
 unfold vret at h
 split at h
 ·rename_i d hd
  cases h
  obtain⟨d',h1,h2⟩:=vals_all hW hd;exact⟨d',h1,_,List.mem_cons_self,(opR_pure (.refl _) hW h2).after hs1 hf1⟩
 ·cases h
theorem ard0_ok (hK:CmpOk X.P K) (hW:W X e σ g) {i:I} {l:List (AD×AS)} {s s':Scr} (h:ard0 X K i σ s=some (l,s')):OpsR X e σ g i l:=by
 cases i with
 |mv x=>
  obtain⟨d',h1,h2⟩:=vret_ok rfl rfl hW h;exact⟨d',g.hp,by simp only[grd,h1],h2⟩
 |pick c a b=>
  simp only[ard0,apick]at h
  split at h
  case h_2=>cases h
  rename_i t ht;obtain⟨tb,h1,h2⟩:=bools_all hW ht;have hQ:∃z∈l,∃d',grd X.P (.pick c a b) g.tm g.hp=some (d',g.hp)∧OpR X e σ g d' g.hp z:=by
   refine asplit_ok hW h2 h ?_ ?_
   ·intro σ' s1 s2 l1 htb hs hW' hr
    subst htb;obtain⟨d',k1,z,k2,k3⟩:=vret_ok (e:=e) ((aref_same c true σ').1.trans hs.nv) ((aref_same c true σ').2.trans hs.ft) (aref_ok hW' h1) hr;exact⟨z,k2,d',by simp only[grd,h1];simp only[cond_true,k1],k3⟩
   ·intro σ' s1 s2 l1 htb hs hW' hr
    subst htb;obtain⟨d',k1,z,k2,k3⟩:=vret_ok (e:=e) ((aref_same c false σ').1.trans hs.nv) ((aref_same c false σ').2.trans hs.ft) (aref_ok hW' h1) hr;exact⟨z,k2,d',by simp only[grd,h1];simp only[cond_false,k1],k3⟩
  obtain⟨z,k1,d',k2,k3⟩:=hQ;exact⟨d',g.hp,k2,z,k1,k3⟩
 |bld zs ps=>
  simp only[ard0]at h
  split at h
  case h_2=>cases h
  rename_i gs hgs
  split at h
  case h_2=>cases h
  rename_i m hm;obtain⟨gs',k1,_⟩:=cACs_ok (X:=X) (e:=e) hgs;have k2:∀e',Agr σ.nv e e'→Al (gaC X e') gs gs':=fun e' he=>by
   obtain⟨gs2,k3,k4⟩:=cACs_ok (X:=X) (e:=e') hgs;rw[k1]at k3;cases k3;exact k4
  obtain⟨m',k3,k4⟩:=afill_ok hW hm k2;exact opsR_d1 (d':=.ag m') (.refl _) hW h (by simp only[grd,k1,k3]) k4
 |fd off k ag x=>
  simp only[ard0]at h
  split at h
  case h_2=>cases h
  rename_i m hm;rw[brec']at h
  split at h
  case isFalse=>cases h
  rename_i hb
  split at h
  case h_2=>cases h
  rename_i d hd;obtain⟨d',k1,k2⟩:=vals_all hW hm
  cases d' with
  |one _=>exact(k2 e (.refl _ _)).elim
  |tup _=>exact(k2 e (.refl _ _)).elim
  |ag m'=>
   have k2:∀e',Agr σ.nv e e'→Al (gaC X e') m m':=k2;rw[take_eq,drop_eq]at hd hb;obtain⟨d',k3,k4⟩:=aasD_ok hd fun e' he=>((k2 e' he).drop off).take k
   have hb':Nat.beq (len ((m'.drop off).take k)) k=true:=by
    rw[len_eq,←(((k2 e (.refl _ _)).drop off).take k).len,←len_eq];exact hb
   exact opsR_d1 (d':=d') (.refl _) hW h (by simp only[grd,k1,take_eq,drop_eq,k3,hb']) k4
 |nilc x=>
  simp only[ard0]at h
  split at h
  ·rename_i nm off hx
   obtain⟨y,k1,k2⟩:=cels_all hW hx;obtain⟨_,rfl⟩:=k2 e (.refl _ _);exact opsR_d1 (d':=.one (.loc (e.ν nm) off)) (.refl _) hW h (by simp only[grd,k1]) k2
  ·rename_i nm k n off hx
   obtain⟨y,k1,k2⟩:=cels_all hW hx;obtain⟨_,j,_,rfl⟩:=k2 e (.refl _ _);exact opsR_d1 (d':=.one (.loc (e.ν nm) (j*k+off))) (.refl _) hW h (by simp only[grd,k1]) k2
  ·rename_i nm ix k off hx
   obtain⟨y,k1,k2⟩:=cels_all hW hx;obtain⟨j,_,rfl⟩:=k2 e (.refl _ _);exact opsR_d1 (d':=.one (.floc (e.L nm) (j*k+off))) (.refl _) hW h (by simp only[grd,k1]) k2
  ·cases h
 |fa o x=>
  simp only[ard0]at h
  split at h
  ·rename_i nm off hx
   obtain⟨y,k1,k2⟩:=cels_all hW hx;obtain⟨_,rfl⟩:=k2 e (.refl _ _);refine opsR_d1 (.refl _) hW h (by simp only[grd,k1];rfl) fun e' he=>?_
   obtain⟨q1,q2⟩:=k2 e' he;injection q2 with q2 q3
   exact⟨q1,by rw[q2]⟩
  ·rename_i nm k n off hx
   obtain⟨y,k1,k2⟩:=cels_all hW hx;obtain⟨_,j,_,rfl⟩:=k2 e (.refl _ _);refine opsR_d1 (.refl _) hW h (by simp only[grd,k1];rfl) fun e' he=>?_
   obtain⟨q1,j',q2,q3⟩:=k2 e' he;injection q3 with q3 q4
   exact⟨q1,j',q2,by rw[q3,q4,Nat.add_assoc]⟩
  ·rename_i nm ix k off hx
   obtain⟨y,k1,k2⟩:=cels_all hW hx;obtain⟨j,_,rfl⟩:=k2 e (.refl _ _);refine opsR_d1 (.refl _) hW h (by simp only[grd,k1];rfl) fun e' he=>?_
   obtain⟨j',q2,q3⟩:=k2 e' he;injection q3 with q3 q4
   exact⟨j',q2,by rw[q3,q4,Nat.add_assoc]⟩
  ·cases h
 |iaa n k x ix=>
  simp only[ard0]at h
  split at h
  ·rename_i nm off kd j hx hj
   rw[brec']at h
   split at h
   case isFalse=>cases h
   rename_i hb;rw[ble_iff]at hb;obtain⟨y,k1,k2⟩:=cels_all hW hx;obtain⟨n',k3,k4⟩:=ints_all hW hj;obtain⟨_,rfl⟩:=k2 e (.refl _ _);have hn:n'=(j:Int):=by rw[←k4 e (.refl _ _)];show(Int.ofNat j)+0=_;rw[Int.add_zero];rfl
   subst hn;refine opsR_d1 (.refl _) hW h (by simp only[grd,k1,k3,idx_of (show j<n from hb)];rfl) fun e' he=>?_
   obtain⟨q1,q2⟩:=k2 e' he;injection q2 with q2 q3
   exact⟨q1,by rw[q2]⟩
  ·rename_i nm k0 m off kd j hx hj
   rw[brec']at h
   split at h
   case isFalse=>cases h
   rename_i hb;rw[ble_iff]at hb;obtain⟨y,k1,k2⟩:=cels_all hW hx;obtain⟨n',k3,k4⟩:=ints_all hW hj;obtain⟨_,j0,_,rfl⟩:=k2 e (.refl _ _);have hn:n'=(j:Int):=by rw[←k4 e (.refl _ _)];show(Int.ofNat j)+0=_;rw[Int.add_zero];rfl
   subst hn;refine opsR_d1 (.refl _) hW h (by simp only[grd,k1,k3,idx_of (show j<n from hb)];rfl) fun e' he=>?_
   obtain⟨q1,j',q2,q3⟩:=k2 e' he;injection q3 with q3 q4
   exact⟨q1,j',q2,by rw[q3,q4,Nat.add_assoc]⟩
  ·rename_i nm i0 k0 off kd j hx hj
   rw[brec']at h
   split at h
   case isFalse=>cases h
   rename_i hb;rw[ble_iff]at hb;obtain⟨y,k1,k2⟩:=cels_all hW hx;obtain⟨n',k3,k4⟩:=ints_all hW hj;obtain⟨j0,_,rfl⟩:=k2 e (.refl _ _);have hn:n'=(j:Int):=by rw[←k4 e (.refl _ _)];show(Int.ofNat j)+0=_;rw[Int.add_zero];rfl
   subst hn;refine opsR_d1 (.refl _) hW h (by simp only[grd,k1,k3,idx_of (show j<n from hb)];rfl) fun e' he=>?_
   obtain⟨j',q2,q3⟩:=k2 e' he;injection q3 with q3 q4
   exact⟨j',q2,by rw[q3,q4,Nat.add_assoc]⟩
  ·cases h
 |ixs x ix=>
  simp only[ard0]at h
  split at h
  case h_2=>cases h
  rename_i a kd j hx hj
  split at h
  case h_2=>cases h
  rename_i s1 hs1
  cases h
  obtain⟨l1,k0,k1,k2,k3⟩:=strs_all hW hx;obtain⟨n',k4,k5⟩:=ints_all hW hj;have q1:=needs_ok hW.holds.fa hs1 j (by simp);have q2:=needs_ok hW.holds.fa hs1 (lsub1 (lsub a j)) (by simp);rw[lv_sub1,lv_sub,←k3 e (.refl _ _),k5 e (.refl _ _)]at q2;rw[k5 e (.refl _ _)]at q1;obtain⟨m,rfl⟩:=int_nat q1;have hm:m<l1.length:=by omega
  have hb:=k2 l1[m] (List.getElem_mem hm);refine⟨.one (.v (.int .u8 (l1[m]:Nat))),g.hp,?_,_,List.mem_cons_self,opR_fresh hW (c:=(l1[m]:Nat)) (fun e' he hv z hz=>?_) fun e' he hv=>?_⟩
  ·simp only[grd,k1,k4]
   show(match nth l1 m with|some b=>some (GD.one (.v (.int .u8 (.ofNat b))),g.hp)|none=>none)=_;rw[nth_eq,List.getElem?_eq_getElem hm];rfl
  ·simp only[List.mem_cons,List.mem_nil_iff,or_false]at hz
   rcases hz with rfl|rfl
   ·rw[lv_V,hv];omega
   ·rw[lv_sub,lv_K,lv_V,hv];omega
  ·show G.v (.int .u8 _)=.v (.int .u8 (lv e'.ρ (lV σ.nv)));rw[hv]
 |sls x lo hi=>
  simp only[ard0]at h
  split at h
  case h_2=>cases h
  rename_i a hx
  split at h
  case h_2=>cases h
  rename_i hh ll hhi hlo
  split at h
  case h_2=>cases h
  rename_i s1 hs1;obtain⟨l1,k0,k1,k2,k3⟩:=strs_all hW hx;have q1:=needs_ok hW.holds.fa hs1 ll (by simp);have q2:=needs_ok hW.holds.fa hs1 (lsub hh ll) (by simp);have q3:=needs_ok hW.holds.fa hs1 (lsub a hh) (by simp);rw[lv_sub]at q2 q3;rw[←k3 e (.refl _ _)]at q3;obtain⟨L,hL⟩:=int_nat q1;obtain⟨H,hH⟩:=int_nat (show 0≤lv e.ρ hh by omega);have gH:gbnd g.tm hi (len l1) (len l1)=some H∧∀e',Agr σ.nv e e'→lv e'.ρ hh=H:=by
   rw[len_eq]
   cases hi with
   |none=>
    cases hhi
    have:H=l1.length:=by have:=k3 e (.refl _ _);omega
    subst this;exact⟨rfl,fun e' he=>(k3 e' he).symm⟩
   |some hA=>
    simp only[]at hhi
    split at hhi
    ·rename_i kd x1 hi1
     cases hhi
     obtain⟨n',k4,k5⟩:=ints_all hW hi1;have:n'=H:=by rw[←hH,k5 e (.refl _ _)]
     subst this;exact⟨gbnd_of k4 (by omega),k5⟩
    ·cases hhi
  have gL:gbnd g.tm lo 0 H=some L∧∀e',Agr σ.nv e e'→lv e'.ρ ll=L:=by
   cases lo with
   |none=>
    cases hlo
    have:L=0:=by rw[lv_K]at hL;omega
    subst this;exact⟨rfl,fun e' he=>by rw[lv_K];rfl⟩
   |some lA=>
    simp only[]at hlo
    split at hlo
    ·rename_i kd x1 lo1
     cases hlo
     obtain⟨n',k4,k5⟩:=ints_all hW lo1;have:n'=L:=by rw[←hL,k5 e (.refl _ _)]
     subst this;exact⟨gbnd_of k4 (by omega),k5⟩
    ·cases hlo
  refine opsR_d1 (d':=.one (.v (.str ((l1.drop L).take (H-L))))) (.refl _) hW h (by simp only[grd,k1,gH.1,gL.1,take_eq,drop_eq]) fun e' he=>?_
  refine⟨_,rfl,?_,fun b hb=>k2 b (List.mem_of_mem_drop (List.mem_of_mem_take hb))⟩;rw[lv_sub,gH.2 e' he,gL.2 e' he,List.length_take,List.length_drop];omega
 |ex x ix=>
  simp only[ard0]at h
  split at h
  case h_2=>cases h
  rename_i m hm;obtain⟨d',k1,k2⟩:=vals_all hW hm
  cases d' with
  |one _=>exact(k2 e (.refl _ _)).elim
  |ag _=>exact(k2 e (.refl _ _)).elim
  |tup m'=>
   have k2:∀e',Agr σ.nv e e'→Al (gaX X e') m m':=k2
   split at h
   ·rename_i c hc
    rw[nth_eq]at hc;obtain⟨y,k3,k4⟩:=(k2 e (.refl _ _)).get hc
    cases y with
    |ag _=>exact k4.elim
    |one y=>
     refine opsR_d1 (d':=.one y) (.refl _) hW h (by simp only[grd,k1,nth_eq,k3];rfl) fun e' he=>?_
     obtain⟨y',k5,k6⟩:=(k2 e' he).get hc;rw[k3]at k5;cases k5;exact k6
   ·rename_i c hc
    rw[nth_eq]at hc;obtain⟨y,k3,k4⟩:=(k2 e (.refl _ _)).get hc
    cases y with
    |one _=>exact k4.elim
    |ag y=>
     refine opsR_d1 (d':=.ag y) (.refl _) hW h (by simp only[grd,k1,nth_eq,k3];rfl) fun e' he=>?_
     obtain⟨y',k5,k6⟩:=(k2 e' he).get hc;rw[k3]at k5;cases k5;exact k6
   ·cases h
 |len b x=>
  cases b with
  |false=>
   simp only[ard0]at h
   split at h
   ·rename_i nm k n hx
    obtain⟨y,k1,k2⟩:=cels_all hW hx;rcases own_or (k2 e (.refl _ _))with rfl|⟨i,m0,rfl⟩
    ·refine opsR_d1 (d':=.one (.v (.int .i64 0))) (.refl _) hW h (by simp only[grd,k1]) fun e' he=>?_
     show G.v (.int .i64 0)=.v (.int .i64 (lv e'.ρ n));rw[(own_nil (k2 e' he)).2]
    ·refine opsR_d1 (d':=.one (.v (.int .i64 (.ofNat m0)))) (.refl _) hW h (by simp only[grd,k1]) fun e' he=>?_
     show G.v (.int .i64 (m0:Int))=.v (.int .i64 (lv e'.ρ n));rw[(own_at (k2 e' he)).2.2.2]
   ·rename_i t ps n nm hx
    obtain⟨y,k1,k2⟩:=cels_all hW hx;rcases k2 e (.refl _ _)with⟨rfl,_⟩|⟨k,m,rfl,_,_⟩
    ·refine opsR_d1 (d':=.one (.v (.int .i64 0))) (.refl _) hW h (by simp only[grd,k1]) fun e' he=>?_
     rcases k2 e' he with⟨_,q⟩|⟨_,_,q,_⟩
     ·show G.v (.int .i64 0)=.v (.int .i64 (lv e'.ρ n));rw[q]
     ·cases q
    ·refine opsR_d1 (d':=.one (.v (.int .i64 (.ofNat m)))) (.refl _) hW h (by simp only[grd,k1]) fun e' he=>?_
     rcases k2 e' he with⟨q,_⟩|⟨_,m',q,q2,_⟩
     ·cases q
     ·injection q with q;injection q with _ q
      show G.v (.int .i64 (m:Int))=.v (.int .i64 (lv e'.ρ n));rw[←q2,q]
   ·rename_i hx
    obtain⟨y,k1,k2⟩:=cels_all hW hx;have hy:y=.v .nil:=k2 e (.refl _ _);subst hy;refine opsR_d1 (d':=.one (.v (.int .i64 0))) (.refl _) hW h (by simp only[grd,k1]) fun e' he=>?_
    show G.v (.int .i64 0)=.v (.int .i64 (lv e'.ρ (lK 0)));rw[lv_K]
   ·cases h
  |true=>
   simp only[ard0]at h
   split at h
   ·rename_i n hx
    obtain⟨l1,k0,k1,k2,k3⟩:=strs_all hW hx;refine opsR_d1 (d':=.one (.v (.int .i64 (.ofNat (len l1))))) (.refl _) hW h (by simp only[grd,k1]) fun e' he=>?_
    show G.v (.int .i64 ((len l1:Nat):Int))=.v (.int .i64 (lv e'.ρ n));rw[←k3 e' he,len_eq]
   ·cases h
 |bin op t x y=>
  simp only[ard0]at h
  split at h
  ·rename_i a b hx hy;exact abin1_ok hK hW hx hy h
  ·cases h
 |beq x y=>
  simp only[ard0]at h
  split at h
  ·rename_i a b hx hy
   obtain⟨t1,k1,_⟩:=bools_all hW hx;obtain⟨t2,k2,_⟩:=bools_all hW hy;exact opsR_cr (g':=.v (.bool (Bool.rec (Bool.rec true false t2) t2 t1))) (by simp only[grd,k1,k2]) h fun m hm=>abool1_ok hW hm
  ·cases h
 |not x=>
  simp only[ard0]at h
  split at h
  ·rename_i b hx
   obtain⟨t1,k1,k2⟩:=bools_all hW hx;refine opsR_d1 (d':=.one (.v (.bool (!t1)))) (.refl _) hW h (by simp only[grd,k1];cases t1<;>rfl) fun e' he=>?_
   show G.v (.bool (!t1))=.v (.bool (bv e'.ρ (beNot b)));rw[bv_not,k2 e' he]
  ·cases h
 |cvi k x=>
  simp only[ard0]at h
  split at h
  ·rename_i kd a hx
   obtain⟨n',k1,k2⟩:=ints_all hW hx;exact opsR_cr (g':=.v (.int k (wrapC k n'))) (by simp only[grd,k1]) h fun m hm=>arith_ok hW k2 hm
  ·cases h
 |mn x y=>
  simp only[ard0]at h
  split at h
  ·rename_i k a k' b hx hy
   obtain⟨n1,k1,k2⟩:=ints_all hW hx;obtain⟨n2,k3,k4⟩:=ints_all hW hy;have hg:grd X.P (.mn x y) g.tm g.hp=some (.one (.v (.int k (Bool.rec n1 n2 (ilt n2 n1)))),g.hp):=by simp only[grd,k1,k3]
   refine⟨_,_,hg,asplit_ok (t:=decide (n1≤n2)) hW (fun e' he=>?_) h ?_ ?_⟩
   ·show decide (0≤lv e'.ρ (lsub b a))=_
    rw[lv_sub,k2 e' he,k4 e' he];congr 1;exact propext (by omega)
   ·intro σ' s1 s2 l1 ht hs hW' hr
    cases hr
    have ht:n1≤n2:=of_decide_eq_true ht;refine⟨_,List.mem_cons_self,opR_pure hs hW' fun e' he=>?_⟩;show G.v (.int k (Bool.rec n1 n2 (ilt n2 n1)))=.v (.int k (lv e'.ρ a));rw[ilt_eq,decide_eq_false (by omega),k2 e' he]
   ·intro σ' s1 s2 l1 ht hs hW' hr
    cases hr
    have ht:¬n1≤n2:=of_decide_eq_false ht;refine⟨_,List.mem_cons_self,opR_pure hs hW' fun e' he=>?_⟩;show G.v (.int k (Bool.rec n1 n2 (ilt n2 n1)))=.v (.int k (lv e'.ρ b));rw[ilt_eq,decide_eq_true (by omega),k4 e' he]
  ·cases h
 |mx x y=>
  simp only[ard0]at h
  split at h
  ·rename_i k a k' b hx hy
   obtain⟨n1,k1,k2⟩:=ints_all hW hx;obtain⟨n2,k3,k4⟩:=ints_all hW hy;have hg:grd X.P (.mx x y) g.tm g.hp=some (.one (.v (.int k (Bool.rec n1 n2 (ilt n1 n2)))),g.hp):=by simp only[grd,k1,k3]
   refine⟨_,_,hg,asplit_ok (t:=decide (n1≤n2)) hW (fun e' he=>?_) h ?_ ?_⟩
   ·show decide (0≤lv e'.ρ (lsub b a))=_
    rw[lv_sub,k2 e' he,k4 e' he];congr 1;exact propext (by omega)
   ·intro σ' s1 s2 l1 ht hs hW' hr
    cases hr
    have ht:n1≤n2:=of_decide_eq_true ht;refine⟨_,List.mem_cons_self,opR_pure hs hW' fun e' he=>?_⟩;show G.v (.int k (Bool.rec n1 n2 (ilt n1 n2)))=.v (.int k (lv e'.ρ b));rw[k4 e' he,ilt_eq]
    by_cases hlt:n1<n2
    ·rw[decide_eq_true hlt]
    ·rw[decide_eq_false hlt]
     have:n1=n2:=by omega
     rw[this]
   ·intro σ' s1 s2 l1 ht hs hW' hr
    cases hr
    have ht:¬n1≤n2:=of_decide_eq_false ht;refine⟨_,List.mem_cons_self,opR_pure hs hW' fun e' he=>?_⟩;show G.v (.int k (Bool.rec n1 n2 (ilt n1 n2)))=.v (.int k (lv e'.ρ a));rw[ilt_eq,decide_eq_false (by omega),k2 e' he]
  ·cases h
 |_=>cases h
end
end Go.Proofs.YtiahijhpjloijaaGreat.V

namespace Go.Proofs.YtiahijhpjloijaaGreat.V
open Go
noncomputable def anew (ao:AO) (σ:AS):AS:=bump 1 (putO σ.nv ao σ)
noncomputable def aobj (c:Nat→AC) (ao:AO) (σ:AS) (s:Scr):Ress:=Bool.rec none (d1 (.one (c σ.nv)) (anew ao σ) s) (okNames σ)
noncomputable def u8ok (ty:STy):Bool:=
 match ty.cs with
 |[.int .u8]=>Bool.rec false (all (fun x:Lin=>match x with
  |(c,[])=>ile 0 c
  |(c,[(0,a)])=>Bool.rec false (ile 0 (Int.add c (Int.mul 255 a))) (ile 0 c)
  |_=>false) ty.cons) (Bool.rec false true (any (fun _=>true) ty.cons))
 |_=>false
noncomputable def u8all (ty:STy):Bool:=
 match ty.cs with
 |[.int .u8]=>Bool.rec false (any (fun x:Lin=>lz (lsub x (lsub (lK 255) (lV 0)))) ty.cons) (any (fun x:Lin=>lz (lsub x (lV 0))) ty.cons)
 |_=>false
noncomputable def findM (nm:Nat) (ix:Lin) (k:Nat) (l:List (Nat×Lin×List AC)):Option (List AC):=
 List.rec none (fun z _ ih=>Bool.rec ih (some z.2.2) (Bool.rec false (Bool.rec false (Nat.beq (len z.2.2) k) (lz (lsub z.2.1 ix))) (Nat.beq z.1 nm))) l
noncomputable def atake (ag:Bool) (k off:Nat) (cs:List AC) (σ:AS) (s:Scr):Ress:=
 Bool.rec none (match aasD ag (take k (drop off cs))with|some d=>d1 d σ s|none=>none) (Nat.beq (len (take k (drop off cs))) k)
noncomputable def aelem (X:Cx) (ag:Bool) (k off k0 t:Nat) (ps:List Lin) (n n':Lin) (σ:AS) (s:Scr):Ress:=
 match kOf X.T t with
 |some k1=>Bool.rec none (match same σ.fa n n' s with
  |some s=>match afe X.T t ps σ with
   |some (cs,σ')=>atake ag k off cs σ' s
   |none=>none
  |none=>none) (Nat.beq k0 k1)
 |none=>none
noncomputable def ald (X:Cx) (k:Nat) (ag:Bool) (a:A) (σ:AS) (s:Scr):Ress:=
 match acel σ.tm a with
 |some (.loc nm off)=>match findO nm σ.ob with
  |some (.X _ cs)=>atake ag k off cs σ s
  |_=>none
 |some (.eloc nm k0 n off)=>match findO nm σ.ob with
  |some (.M _ t ps n')=>aelem X ag k off k0 t ps n n' σ s
  |some (.F _ t ps n' _)=>aelem X ag k off k0 t ps n n' σ s
  |_=>none
 |some (.floc nm ix k0 off)=>Bool.rec none (match findM nm ix k0 σ.me with
  |some cs=>atake ag k off cs σ s
  |none=>none) (Nat.ble 1 k0)
 |_=>none
noncomputable def acf1 (T:Nat→Option STy) (fa:Tr Lin) (t off:Nat) (c:AC) (s:Scr):Option Scr:=
 match T t with
 |some ty=>match nth ty.cs off with
  |some (.sl _ _)=>none
  |some ct=>match ameas ct c with
   |some m=>Bool.rec none
    (match each (fun x:Lin=>Bool.rec (sbF (fun v=>Bool.rec none m (Nat.beq v off)) x) (some (lK 0)) (all (fun p=>not (Nat.beq p.1 off)) x.2)) ty.cons with
    |some l=>needs fa l s
    |none=>none) (all (fun ct=>match ct with| .sl _ ps=>all (fun x:Lin=>all (fun p=>not (Nat.beq p.1 off)) x.2) ps|_=>true) ty.cs)
   |none=>none
  |none=>none
 |none=>none
noncomputable def kEq (X:Cx) (t k0:Nat):Bool:=match kOf X.T t with|some k1=>Nat.beq k0 k1|none=>false
theorem kEq_ok {X:Cx} {t k0:Nat} (h:kEq X t k0=true):kOf X.T t=some k0:=by
 unfold kEq at h
 split at h
 ·rename_i h1;rw[beq_iff]at h;rw[h1,h]
 ·cases h
noncomputable def ast (X:Cx) (k:Nat) (a x:A) (σ:AS) (s:Scr):Ress:=
 match acel σ.tm a with
 |some (.loc nm off)=>match findO nm σ.ob with
  |some (.X e0 cs)=>match acells σ.tm x with
   |some l=>Bool.rec none (d1 (.one .un) (putO nm (.X e0 (splice l off cs)) σ) s) (Bool.rec false (Nat.ble (off+k) (len cs)) (Nat.beq (len l) k))
   |none=>none
  |_=>none
 |some (.eloc nm k0 n off)=>match findO nm σ.ob with
  |some (.M e0 t ps n')=>match acells σ.tm x with
   |some l=>match same σ.fa n n' s with
    |some s=>Bool.rec none (Bool.rec
      (match l with
      |[c]=>Bool.rec none (match acf1 X.T σ.fa t off c s with|some s=>d1 (.one .un) σ s|none=>none) (Bool.rec false (Nat.beq k 1) (Nat.ble (Nat.succ off) k0))
      |_=>none)
      (match acf X.T σ.fa t ps l s with|some s=>d1 (.one .un) σ s|none=>none) (Bool.rec false (Nat.beq off 0) (Nat.beq k k0)))
     (Bool.rec false (all isP l) (kEq X t k0))
    |none=>none
   |none=>none
  |_=>none
 |_=>none
noncomputable def aX2M (X:Cx) (nm e0:Nat) (cs:List AC) (n:Lin) (k:Nat) (σ:AS) (s:Scr):Option (AO×Scr):=
 match X.ety e0 with
 |some t=>match X.T t with
  |some ty=>match lnat n with
   |some m=>Bool.rec none (match acfL X.T σ.fa t (maps lK ty.dps) k m cs s with
    |some s=>some (.M e0 t (maps lK ty.dps) n,s)
    |none=>none) (Bool.rec false (all isP cs) (Nat.beq k (len ty.cs)))
   |none=>none
  |none=>none
 |none=>none
noncomputable def aias (X:Cx) (k:Nat) (x ix:A) (σ:AS) (s:Scr):Ress:=
 match acel σ.tm x,aint σ.tm ix with
 |some (.own nm k0 n),some (_,j)=>Bool.rec none (match needs σ.fa [j,lsub1 (lsub n j)] s with
  |some s=>match findO nm σ.ob with
   |some (.X e0 cs)=>match lnat j with
    |some j=>d1 (.one (.loc nm (j*k))) σ s
    |none=>match aX2M X nm e0 cs n k σ s with
     |some (ao,s)=>d1 (.one (.eloc nm k n 0)) (putO nm ao σ) s
     |none=>none
   |some (.M _ t ps n')=>d1 (.one (.eloc nm k n 0)) σ s
   |some (.F _ t ps n' nm2)=>d1 (.one (.eloc nm k n 0)) σ s
   |_=>none
  |none=>none) (Nat.beq k k0)
 |some (.sl t ps n nm),some (_,j)=>match needs σ.fa [j,lsub1 (lsub n j)] s with
  |some s=>match kOf X.T t with
   |some k1=>Bool.rec none (match findM nm j k σ.me with
    |some _=>d1 (.one (.floc nm j k 0)) σ s
    |none=>Bool.rec none (match afe X.T t ps σ with
     |some (cs,σ')=>d1 (.one (.floc nm j k 0)) {σ' with me:=(nm,j,cs)::σ'.me} s
     |none=>none) (llt σ.nv j)) (Nat.beq k k1)
   |none=>none
  |none=>none
 |_,_=>none
noncomputable def ard1 (X:Cx) (i:I) (σ:AS) (s:Scr):Ress:=
 match i with
 | .alloc e zs=>match each cAC zs with|some gs=>aobj (fun nm=>.loc nm 0) (.X e gs) σ s|none=>none
 | .box e k x=>match acells σ.tm x with
   |some l=>Bool.rec none (aobj (fun nm=>.loc nm 0) (.X e l) σ s) (Nat.beq (len l) k)
   |none=>none
 | .bsl e k n zs ps=>match each cAC zs with
   |some gs=>match afill σ.tm (rep n gs) ps with|some l=>aobj (fun nm=>.own nm k (lK (.ofNat n))) (.X e l) σ s|none=>none
   |none=>none
 | .mk e k n zs=>match each cAC zs,X.ety e with
   |some gs,some t=>match X.T t with
    |some ty=>Bool.rec none (match acf X.T σ.fa t (maps lK ty.dps) gs s with
     |some s=>aobj (fun nm=>.own nm k (lK (.ofNat n))) (.M e t (maps lK ty.dps) (lK (.ofNat n))) σ s
     |none=>none) (Bool.rec false (all isP gs) (Nat.beq k (len ty.cs)))
    |none=>none
   |_,_=>none
 | .ld k ag a=>ald X k ag a σ s
 | .st k a x=>ast X k a x σ s
 | .ias k x ix=>aias X k x ix σ s
 | .s2b e x=>match acel σ.tm x,X.ety e with
   |some (.str n),some t=>match X.T t with
    |some ty=>Bool.rec none (aobj (fun nm=>.own nm 1 n) (.M e t [] n) σ s) (Bool.rec false (u8ok ty) (llt σ.nv n))
    |none=>none
   |_,_=>none
 |_=>none
section
variable{X:Cx} {e:AEnv} {σ:AS} {g:GS}
theorem anew_ok (hW:W X e σ g) (hnm:okNames σ=true) {ao:AO} {o:GO} (ho:∀e',Agr σ.nv e e'→gaO X e' ao o) {c:Nat→AC} {d':G}
 (hd:∀e',e'.on σ.nv=true→e'.ν σ.nv=g.hp.length→Agr σ.nv e e'→gaC X e' (c σ.nv) d'):OpR X e σ g (.one d') (g.hp++[o]) (.one (c σ.nv),anew ao σ):=by
 refine⟨Nat.le_succ _,rfl,e.put σ.nv 0 g.hp.length true [],agr_put _ _ _ _ _ _,fun e' he=>?_⟩;have he:Agr (σ.nv+1) (e.put σ.nv 0 g.hp.length true []) e':=he;obtain⟨_,hν,hon,_⟩:=put_at _ _ _ _ _ _ he;have hee:Agr σ.nv e e':=(agr_put e σ.nv 0 g.hp.length true []).trans (he.mono (Nat.le_succ _));refine⟨bump_holds (newO_ok (hW e' hee) (.inl ?_) (fun _=>hν) (fun _=>ho e' hee) (nofree hnm)),hd e' hon hν hee⟩
 cases hf:findO σ.nv σ.ob with
 |none=>rfl
 |some a=>exact(nofree hnm a hf).elim
theorem aobj_ok {i:I} (hW:W X e σ g) {c:Nat→AC} {ao:AO} {o:GO} {l:List (AD×AS)} {s s':Scr} (h:aobj c ao σ s=some (l,s')) (ho:∀e',Agr σ.nv e e'→gaO X e' ao o) {d':G}
 (hd:∀e',e'.on σ.nv=true→e'.ν σ.nv=g.hp.length→Agr σ.nv e e'→gaC X e' (c σ.nv) d') (hg:grd X.P i g.tm g.hp=some (.one d',g.hp++[o])):OpsR X e σ g i l:=by
 unfold aobj at h;rw[brec']at h
 split at h
 ·rename_i hnm
  cases h
  exact⟨_,_,hg,_,List.mem_cons_self,anew_ok hW hnm ho hd⟩
 ·cases h
theorem consts_all {zs:List C} {gs:List AC} (h:each cAC zs=some gs) (e:AEnv):∃gs',each cG zs=some gs'∧∀e',gaC X e'=gaC X e'→Al (gaC X e') gs gs':=by
 obtain⟨gs',k1,_⟩:=cACs_ok (X:=X) (e:=e) h;refine⟨gs',k1,fun e' _=>?_⟩;obtain⟨gs2,k3,k4⟩:=cACs_ok (X:=X) (e:=e') h;rw[k1]at k3;cases k3;exact k4
theorem pures {l:List AC} (h:all isP l=true) {m:List G} (hm:Al (gaC X e) l m):∃us:List U,m=us.map .v:=by
 induction hm with
 |nil=>exact⟨[],rfl⟩
 |@cons c x l m h1 h2 ih=>
  have hc:=all_true h c List.mem_cons_self;obtain⟨u,rfl⟩:=isP_ok hc h1;obtain⟨us,rfl⟩:=ih (all_of fun y hy=>all_true h y (List.mem_cons_of_mem _ hy));exact⟨u::us,rfl⟩
theorem atake_ok {σ':AS} {ag:Bool} {k off:Nat} {cs:List AC} {xs:List G} {l:List (AD×AS)} {s s':Scr} {hp':List GO} (h:atake ag k off cs σ' s=some (l,s')) (hnv:σ.nv≤σ'.nv) (hft:σ'.ft=σ.ft) {e1:AEnv} (he1:Agr σ.nv e e1)
 (hH:∀e',Agr σ'.nv e1 e'→Holds X e' σ' ⟨g.tm,hp'⟩) (hx:∀e',Agr σ'.nv e1 e'→Al (gaC X e') cs xs):
 ∃d',gasD ag ((xs.drop off).take k)=some d'∧((xs.drop off).take k).length=k∧∃z∈l,OpR X e σ g d' hp' z:=by
 unfold atake at h;rw[brec']at h
 split at h
 case isFalse=>cases h
 rename_i hb
 split at h
 case h_2=>cases h
 rename_i d hd
 cases h
 rw[take_eq,drop_eq]at hd hb;obtain⟨d',k3,k4⟩:=aasD_ok (e:=e1) (σ:=σ') hd fun e' he=>((hx e' he).drop off).take k
 rw[beq_iff,len_eq,(((hx e1 (.refl _ _)).drop off).take k).len]at hb;exact⟨d',k3,hb,_,List.mem_cons_self,hnv,hft,e1,he1,fun e' he=>⟨hH e' he,k4 e' he⟩⟩
theorem ld_run {k off:Nat} {ag:Bool} {a:A} {i:Nat} {cs:List G} {d':GD} (h1:gcel g.tm a=some (.loc i off)) (h2:gobj g.hp i=some cs) (h3:gasD ag ((cs.drop off).take k)=some d') (h4:((cs.drop off).take k).length=k):
 grd X.P (.ld k ag a) g.tm g.hp=some (d',g.hp):=by
 have hb:Nat.beq (len ((cs.drop off).take k)) k=true:=by rw[len_eq,beq_iff];exact h4
 simp only[grd,h1,h2,take_eq,drop_eq,h3,hb]
theorem gobj_of {hp:List GO} {i e0:Nat} {fr:Bool} {cs:List G} (h:hp[i]?=some (.ob e0 fr cs)):gobj hp i=some cs:=by unfold gobj;rw[nth_eq,h]
theorem elem_all {nm i:Nat} {ao:AO} {t:Nat} {ps:List Lin} {n':Lin} {e0:Nat} {fr:Bool} {us:List U} {k:Nat} (hk:kOf X.T t=some k) (hW:W X e σ g) (hf:findO nm σ.ob=some ao) (hao:(∃e0,ao=.M e0 t ps n')∨∃e0 nm2,ao=.F e0 t ps n' nm2)
 (hg:g.hp[i]?=some (.ob e0 fr (us.map .v))) {e':AEnv} (he:Agr σ.nv e e') (hon:e'.on nm=true) (hν:e'.ν nm=i):∃m:Nat,(m:Int)=lv e'.ρ n'∧CfL X.T t (ps.map (lv e'.ρ)) k m us:=by
 obtain⟨o,ho,hgo⟩:=(hW e' he).ob nm ao hf hon;rw[hν,hg]at ho
 cases ho
 rcases hao with⟨e1,rfl⟩|⟨e1,nm2,rfl⟩
 ·obtain⟨us',k',m,h1,h2,h3⟩:=hgo
  injection h1 with _ _ h1
  have:=mapv_inj h1;subst this;have:k'=k:=by have:=h3.1;rw[hk]at this;exact(Option.some.inj this).symm
  subst this;exact⟨m,h2,h3⟩
 ·obtain⟨k',m,h1,h2,h3⟩:=hgo
  injection h1 with _ _ h1
  have:=mapv_inj h1;have hk':k'=k:=by have:=h3.1;rw[hk]at this;exact(Option.some.inj this).symm
  subst hk';exact⟨m,h2,by rw[this];exact h3⟩
theorem aelem_ok {k off k0 t:Nat} {ag:Bool} {a:A} {ps:List Lin} {n n':Lin} {l:List (AD×AS)} {s s':Scr} {nm:Nat} {ao:AO} (hW:W X e σ g) (ha:acel σ.tm a=some (.eloc nm k0 n off)) (hf:findO nm σ.ob=some ao) (hao:(∃e0,ao=.M e0 t ps n')∨∃e0 nm2,ao=.F e0 t ps n' nm2)
 (h:aelem X ag k off k0 t ps n n' σ s=some (l,s')):OpsR X e σ g (.ld k ag a) l:=by
 unfold aelem at h
 split at h
 case h_2=>cases h
 rename_i k1 hk1;rw[brec']at h
 split at h
 case isFalse=>cases h
 rename_i hkk;rw[beq_iff]at hkk;subst hkk
 split at h
 case h_2=>cases h
 rename_i s1 hs1
 split at h
 case h_2=>cases h
 rename_i cs σ' hcs;obtain⟨x,q1,q2⟩:=cels_all hW ha;obtain⟨hon,j,hj,rfl⟩:=q2 e (.refl _ _);have hgo:∃(e0:Nat) (fr:Bool) (us:List U),g.hp[e.ν nm]?=some (.ob e0 fr (us.map G.v)):=by
  obtain⟨o,ho,hgo⟩:=hW.holds.ob nm ao hf hon;rcases hao with⟨e1,rfl⟩|⟨e1,nm2,rfl⟩
  ·obtain⟨us,_,_,rfl,_⟩:=hgo;exact⟨_,_,us,ho⟩
  ·obtain⟨_,_,rfl,_⟩:=hgo;exact⟨_,_,_,ho⟩
 obtain⟨e0,fr,us,hg⟩:=hgo;obtain⟨m,hm,hc⟩:=elem_all hk1 hW hf hao hg (.refl _ _) hon rfl;have hnn:=same_ok hW.holds.fa hs1;have hjm:j<m:=by omega
 have hce:=hc.2.2 j hjm;obtain⟨r1,r2,r3,r4,r5,e1,r6,r7⟩:=afe_ok hW hce hcs;obtain⟨d',t1,t2,t3⟩:=atake_ok (e:=e) (σ:=σ) h r1 r5 r6 (fun e' he=>(r7 e' he).2.1) (fun e' he=>(r7 e' he).2.2);have hlen:((us.drop (j*k0)).take k0).length=k0:=by
  have h1:(j+1)*k0≤m*k0:=Nat.mul_le_mul_right _ hjm;rw[Nat.succ_mul]at h1;rw[List.length_take,List.length_drop,hc.2.1];omega
 have hsub:((((us.drop (j*k0)).take k0).map G.v).drop off).take k=(((us.map G.v).drop (j*k0+off)).take k):=by
  rw[List.length_take,List.length_drop,List.length_map,hlen]at t2;rw[List.map_take,List.map_drop,List.drop_take,List.drop_drop,List.take_take,Nat.min_eq_left (by omega)]
 rw[hsub]at t1 t2;exact⟨d',g.hp,ld_run q1 (gobj_of hg) t1 t2,t3⟩
theorem findM_ok {nm:Nat} {ix:Lin} {k:Nat}:∀{l:List (Nat×Lin×List AC)} {cs:List AC},findM nm ix k l=some cs→∃z∈l,z.1=nm∧lz (lsub z.2.1 ix)=true∧z.2.2=cs∧cs.length=k
 |[],cs,h=>by cases h
 |z::l,cs,h=>by
  have h:(Bool.rec (findM nm ix k l) (some z.2.2) (Bool.rec false (Bool.rec false (Nat.beq (len z.2.2) k) (lz (lsub z.2.1 ix)):Bool) (Nat.beq z.1 nm):Bool):Option (List AC))=some cs:=h;rw[brec']at h
  split at h
  ·rename_i hb
   cases h
   rw[brec']at hb
   split at hb
   case isFalse=>cases hb
   rename_i h1;rw[brec']at hb
   split at hb
   case isFalse=>cases hb
   rename_i h2;rw[beq_iff,len_eq]at hb;rw[beq_iff]at h1;exact⟨z,List.mem_cons_self,h1,h2,rfl,hb⟩
  ·obtain⟨y,hy,r⟩:=findM_ok h
   exact⟨y,List.mem_cons_of_mem _ hy,r⟩
theorem ald_ok (hW:W X e σ g) {k:Nat} {ag:Bool} {a:A} {l:List (AD×AS)} {s s':Scr} (h:ald X k ag a σ s=some (l,s')):OpsR X e σ g (.ld k ag a) l:=by
 unfold ald at h
 split at h
 ·rename_i nm off ha
  split at h
  case h_2=>cases h
  rename_i e0 cs hf;obtain⟨x,q1,q2⟩:=cels_all hW ha;obtain⟨hon,rfl⟩:=q2 e (.refl _ _);obtain⟨o,ho,gs,rfl,hgs⟩:=hW.holds.ob nm _ hf hon;have hall:∀e',Agr σ.nv e e'→Al (gaC X e') cs gs:=fun e' he=>by
   obtain⟨hon',hν'⟩:=q2 e' he;obtain⟨o',ho',gs',rfl,hgs'⟩:=(hW e' he).ob nm _ hf hon';injection hν' with hν' _
   rw[←hν',ho]at ho'
   cases ho'
   exact hgs'
  obtain⟨d',t1,t2,t3⟩:=atake_ok (e:=e) (σ:=σ) h (Nat.le_refl _) rfl (.refl _ _) (fun e' he=>hW e' he) hall;exact⟨d',g.hp,ld_run q1 (gobj_of ho) t1 t2,t3⟩
 ·rename_i nm k0 n off ha
  split at h
  ·rename_i e0 t ps n' hf;exact aelem_ok hW ha hf (.inl ⟨_,rfl⟩) h
  ·rename_i e0 t ps n' nm2 hf;exact aelem_ok hW ha hf (.inr ⟨_,_,rfl⟩) h
  ·cases h
 ·rename_i nm ix k0 off ha
  rw[brec']at h
  split at h
  case isFalse=>cases h
  rename_i hpos;rw[ble_iff]at hpos
  split at h
  case h_2=>cases h
  rename_i cs hcs;obtain⟨z,hz,rfl,hlz,rfl,hk0⟩:=findM_ok hcs;obtain⟨x,q1,q2⟩:=cels_all hW ha;obtain⟨j,hj,rfl⟩:=q2 e (.refl _ _);obtain⟨j1,hj1,us,hus,hal⟩:=hW.holds.me z hz;have hall:∀e',Agr σ.nv e e'→Al (gaC X e') z.2.2 (us.map .v):=fun e' he=>by
   obtain⟨j2,hj2,hx2⟩:=q2 e' he;obtain⟨j3,hj3,us',hus',hal'⟩:=(hW e' he).me z hz;injection hx2 with hL hjj
   have e1:=lz_ok e'.ρ hlz;have e2:=lz_ok e.ρ hlz;rw[lv_sub]at e1 e2;have:j2=j:=by
    have:j*k0=j2*k0:=by omega
    exact(Nat.eq_of_mul_eq_mul_right hpos this).symm
   have:us'=us:=by rw[←hus',←hus,hL,show j3=j1 from by omega]
   rw[←this];exact hal'
  obtain⟨d',t1,t2,t3⟩:=atake_ok (e:=e) (σ:=σ) h (Nat.le_refl _) rfl (.refl _ _) (fun e' he=>hW e' he) hall;have e2:=lz_ok e.ρ hlz;rw[lv_sub]at e2;have hjj:j1=j:=by omega
  subst hjj;have hul:us.length=k0:=by have:=hal.len;rw[List.length_map]at this;omega
  have hsub:((us.map G.v).drop off).take k=(((e.L z.1).drop (j1*k0+off)).take k).map G.v:=by
   rw[List.length_take,List.length_drop,List.length_map,hul]at t2;rw[←hus,hk0,List.map_take,List.map_take,List.map_drop,List.map_drop,List.drop_take,List.drop_drop,List.take_take,Nat.min_eq_left (by omega)]
  rw[hsub]at t1 t2;refine⟨d',g.hp,?_,t3⟩;have hb:Nat.beq (len (((e.L z.1).drop (j1*k0+off)).take k)) k=true:=by
   rw[List.length_map]at t2;rw[len_eq,beq_iff];exact t2
  simp only[grd,q1,take_eq,drop_eq,hb,mapsV_eq,t1]
 ·cases h
end
end Go.Proofs.YtiahijhpjloijaaGreat.V

namespace Go.Proofs.YtiahijhpjloijaaGreat.V
open Go
section
variable{X:Cx} {e:AEnv} {σ:AS} {g:GS}
noncomputable def noCell (off:Nat) (ct:CT):Bool:=match ct with| .sl _ ps=>all (fun x:Lin=>all (fun p=>not (Nat.beq p.1 off)) x.2) ps|_=>true
theorem CfC_congr {T:Nat→Option STy} {σ σ':Nat→Int} {off:Nat} (hk:∀v,v≠off→σ v=σ' v) {ct:CT} (hn:noCell off ct=true) {u:U} {m:Int} (h:CfC T ct σ u m):CfC T ct σ' u m:=by
 cases h with
 |int k _ n=>exact .int ..
 |bool _ b=>exact .bool ..
 |str _ l h=>exact .str _ l h
 |nil t ps _=>exact .nil ..
 |fz t ps _ k' n l' hk' hl h'=>
  have:ps.map (lv σ)=ps.map (lv σ'):=by
   refine List.map_congr_left fun x hx=>lv_congr fun p hp=>hk _ ?_
   have:=all_true (all_true hn x hx) p hp;intro e;rw[e,Nat.beq_refl]at this
   cases this
  rw[this]at h';exact .fz _ _ _ _ _ _ hk' hl h'
theorem CfCs_congr2 {T:Nat→Option STy} {σ σ':Nat→Int} {off:Nat} (hk:∀v,v≠off→σ v=σ' v):∀{cts:List CT} {us:List U} {ms:List Int},(∀ct∈cts,noCell off ct=true)→CfCs T cts σ us ms→CfCs T cts σ' us ms
 |[],us,ms,hn,h=>by cases h;exact .nil _
 |ct::cts,us,ms,hn,h=>by
  cases h with
  |cons _ _ _ u us m ms h t=>exact .cons _ _ _ _ _ _ _ (CfC_congr hk (hn ct List.mem_cons_self) h) (CfCs_congr2 hk (fun c hc=>hn c (List.mem_cons_of_mem _ hc)) t)
theorem CfCs_set {T:Nat→Option STy} {σ σ':Nat→Int} {off0:Nat} (hk:∀v,v≠off0→σ v=σ' v) {u:U} {m:Int} {ct:CT} (hc:CfC T ct σ' u m):∀{cts:List CT} {off:Nat} {us:List U} {ms:List Int},(∀ct∈cts,noCell off0 ct=true)→cts[off]?=some ct→CfCs T cts σ us ms→CfCs T cts σ' (splice [u] off us) (splice [m] off ms)
 |[],off,us,ms,hn,hg,h=>by cases hg
 |c0::cts,0,us,ms,hn,hg,h=>by
  cases hg
  cases h with
  |cons _ _ _ u0 us m0 ms h t=>
   rw[splice_zero,splice_zero,splice_nil,splice_nil];exact .cons _ _ _ _ _ _ _ hc (CfCs_congr2 hk (fun c hc=>hn c (List.mem_cons_of_mem _ hc)) t)
 |c0::cts,off+1,us,ms,hn,hg,h=>by
  cases h with
  |cons _ _ _ u0 us m0 ms h t=>
   rw[splice_succ,splice_succ];exact .cons _ _ _ _ _ _ _ (CfC_congr hk (hn c0 List.mem_cons_self) h) (CfCs_set hk hc (fun c hc=>hn c (List.mem_cons_of_mem _ hc)) hg t)
theorem splice_map {α β:Type} (f:α→β) (x:α):∀(off:Nat) (l:List α),(splice [x] off l).map f=splice [f x] off (l.map f)
 |0,[]=>rfl
 |0,y::l=>by rw[splice_zero,splice_nil,List.map_cons,List.map_cons,splice_zero,splice_nil]
 |off+1,[]=>rfl
 |off+1,y::l=>by rw[splice_succ,List.map_cons,List.map_cons,splice_succ,splice_map f x off l]
theorem acf1_ok {fa:Tr Lin} (hF:Facts e.ρ fa) {t off:Nat} {c:AC} {s s':Scr} (h:acf1 X.T fa t off c s=some s') {u:U} (hc:gaC X e c (.v u)) {pv:List Int} {us:List U} (hE:CfE X.T t pv us):CfE X.T t pv (splice [u] off us):=by
 unfold acf1 at h
 split at h
 case h_2=>cases h
 rename_i ty hty
 split at h
 ·cases h
 ·rename_i ct hnsl hct
  split at h
  case h_2=>cases h
  rename_i m hm;rw[brec']at h
  split at h
  case isFalse=>cases h
  rename_i hall
  split at h
  case h_2=>cases h
  rename_i l hl;rw[nth_eq]at hct;obtain⟨n1,n2,_⟩:=ameas_ok hm hc
  cases hE with
  |mk _ _ _ ty' ms ht hcs hcons=>
   rw[hty]at ht;cases ht;have hms:=CfCs_mU hcs;subst hms;have hlen:=hcs.len.1;have hoff:off<ty.cs.length:=lt_of_get hct;have hspl:splice [mU u] off (us.map mU)=(splice [u] off us).map mU:=(splice_map mU u off us).symm;have hslen:((splice [u] off us).map mU).length=us.length:=by rw[List.length_map,splice_len]
   have get:∀v,v<us.length→((splice [u] off us).map mU).getD v 0=if v=off then mU u else(us.map mU).getD v 0:=by
    intro v hv;rw[←hspl,List.getD_eq_getElem?_getD,splice_get _ _ _ (by simp;omega)]
    by_cases hvo:v=off
    ·subst hvo;simp
    ·rw[if_neg (by simp;omega),if_neg hvo,←List.getD_eq_getElem?_getD]
   have hk:∀v,v≠off→sval (us.map mU) pv v=sval ((splice [u] off us).map mU) pv v:=by
    intro v hv;rcases Nat.lt_or_ge v us.length with h1|h1
    ·rw[sval_lo (by rw[List.length_map];exact h1),sval_lo (by rw[hslen];exact h1),get v h1,if_neg hv]
    ·rw[sval_hi (by rw[List.length_map];exact h1),sval_hi (by rw[hslen];exact h1),List.length_map,hslen]
   have hat:sval ((splice [u] off us).map mU) pv off=mU u:=by
    rw[sval_lo (by rw[hslen];omega),get off (by omega),if_pos rfl]
   refine .mk _ _ _ ty ((splice [u] off us).map mU) hty ?_ fun x hx=>?_
   ·rw[←hspl]
    refine CfCs_set (off0:=off) (σ:=sval (us.map mU) pv) (fun v hv=>by rw[hspl];exact hk v hv) (n2 (fun t' ps' h=>hnsl t' ps' h) _) (fun c hc=>all_true hall c hc) hct hcs
   ·have h0:=hcons x hx
    obtain⟨i,hi⟩:=List.getElem?_of_mem hx;obtain⟨q,hq,hxq⟩:=(each_spec _ _ _ hl).get hi;have hnq:=needs_ok hF h q (List.mem_of_getElem? hq);have hxq:(Bool.rec (sbF (fun v=>Bool.rec none m (Nat.beq v off)) x) (some (lK 0)) (all (fun p=>not (Nat.beq p.1 off)) x.2):Option Lin)=some q:=hxq;rw[brec']at hxq
    split at hxq
    ·rename_i hno
     have:lv (sval ((splice [u] off us).map mU) pv) x=lv (sval (us.map mU) pv) x:=lv_congr fun p hp=>(hk p.1 fun e'=>by
      have:=all_true hno p hp;rw[e',Nat.beq_refl]at this;cases this).symm
     rw[this];exact h0
    ·have:=sbF_ok (ρ:=e.ρ) (ρ':=sval ((splice [u] off us).map mU) pv) (c:=x.1) (l:=x.2) hxq fun p hp y hy=>by
      rw[brec']at hy
      split at hy
      ·rename_i hpo
       rw[beq_iff]at hpo;rw[hpo,hat,n1 y hy]
      ·cases hy
     rw[this]at hnq;exact hnq
 ·cases h
theorem st_run {k off:Nat} {a x:A} {i e0:Nat} {cs m:List G} (h1:gcel g.tm a=some (.loc i off)) (h2:g.hp[i]?=some (.ob e0 false cs)) (h3:gcells g.tm x=some m) (h4:m.length=k) (h5:off+k≤cs.length):
 grd X.P (.st k a x) g.tm g.hp=some (.one (.v .un),setO g.hp i (.ob e0 false (splice m off cs))):=by
 have hb:Nat.beq (len m) k=true:=by rw[len_eq,beq_iff];exact h4
 have hb':Nat.ble (off+k) (len cs)=true:=by rw[len_eq,ble_iff];exact h5
 simp only[grd,h1,nth_eq,h2,h3,hb,hb']
theorem splice_map2 {α β:Type} (f:α→β) (new:List α) (off:Nat) (l:List α):(splice new off l).map f=splice (new.map f) off (l.map f):=by
 induction new generalizing off l with
 |nil=>rfl
 |cons x new ih=>
  induction off generalizing l with
  |zero=>cases l with
   |nil=>rfl
   |cons y l=>rw[splice_zero,List.map_cons,List.map_cons,List.map_cons,splice_zero,ih]
  |succ off iho=>cases l with
   |nil=>rfl
   |cons y l=>rw[splice_succ,List.map_cons,iho l,List.map_cons,List.map_cons,splice_succ]
theorem ast_ok (hW:W X e σ g) {k:Nat} {a x:A} {l:List (AD×AS)} {s s':Scr} (h:ast X k a x σ s=some (l,s')):OpsR X e σ g (.st k a x) l:=by
 unfold ast at h
 split at h
 ·rename_i nm off ha
  split at h
  case h_2=>cases h
  rename_i e0 cs hf
  split at h
  case h_2=>cases h
  rename_i m hm;rw[brec']at h
  split at h
  case isFalse=>cases h
  rename_i hb
  cases h
  rw[brec']at hb
  split at hb
  case isFalse=>cases hb
  rename_i hk;rw[beq_iff,len_eq]at hk;rw[ble_iff,len_eq]at hb;obtain⟨y,q1,q2⟩:=cels_all hW ha;obtain⟨hon,rfl⟩:=q2 e (.refl _ _);obtain⟨o,ho,gs,rfl,hgs⟩:=hW.holds.ob nm _ hf hon;obtain⟨ms,r1,r2⟩:=cells_all hW hm;have hall:∀e',Agr σ.nv e e'→Al (gaC X e') cs gs∧e'.on nm=true∧e'.ν nm=e.ν nm:=fun e' he=>by
   obtain⟨hon',hν'⟩:=q2 e' he;obtain⟨o',ho',gs',rfl,hgs'⟩:=(hW e' he).ob nm _ hf hon';injection hν' with hν' _
   rw[←hν',ho]at ho'
   cases ho'
   exact⟨hgs',hon',hν'.symm⟩
  have hml:=(r2 e (.refl _ _)).len;have hcl:=hgs.len;refine⟨_,_,st_run q1 ho r1 (by omega) (by omega),_,List.mem_cons_self,Nat.le_refl _,rfl,e,.refl _ _,fun e' he=>?_⟩;have he:Agr σ.nv e e':=he;obtain⟨p1,p2,p3⟩:=hall e' he;have:=setO_ok (hW e' he) hf p2 (ao':=.X e0 (splice m off cs)) (o:=.ob e0 false (splice ms off gs)) ⟨_,rfl,p1.splice (r2 e' he) (by omega)⟩;rw[p3]at this;exact⟨this,rfl⟩
 ·rename_i nm k0 n off ha
  split at h
  case h_2=>cases h
  rename_i e0 t ps n' hf
  split at h
  case h_2=>cases h
  rename_i m hm
  split at h
  case h_2=>cases h
  rename_i s1 hs1;rw[brec']at h
  split at h
  case isFalse=>cases h
  rename_i hpk;rw[brec']at hpk
  split at hpk
  case isFalse=>cases hpk
  rename_i hke;have hk1:=kEq_ok hke;have hp:=hpk;obtain⟨y,q1,q2⟩:=cels_all hW ha;obtain⟨hon,j,hj,rfl⟩:=q2 e (.refl _ _);obtain⟨o,ho,us,k',m',rfl,hm',hc⟩:=hW.holds.ob nm _ hf hon;have hkk:k'=k0:=by have:=hc.1;rw[hk1]at this;exact(Option.some.inj this).symm
  subst hkk;obtain⟨ms,r1,r2⟩:=cells_all hW hm;obtain⟨vs,rfl⟩:=pures hp (r2 e (.refl _ _));have hnn:=same_ok hW.holds.fa hs1;have hjm:j<m':=by omega
  have hjk:(j+1)*k'≤m'*k':=Nat.mul_le_mul_right _ hjm;rw[Nat.succ_mul]at hjk;have hul:=hc.2.1;have fin:∀(new:List U),(∀e' j' m2,Agr σ.nv e e'→e'.on nm=true→e'.ν nm=e.ν nm→j'*k'+off=j*k'+off→j'<m2→CfL X.T t (ps.map (lv e'.ρ)) k' m2 us→(m2:Int)=lv e'.ρ n'→Facts e'.ρ σ.fa→CfL X.T t (ps.map (lv e'.ρ)) k' m2 new)→
   new=splice vs (j*k'+off) us→(off+k≤k'∧vs.length=k)→d1 (.one .un) σ s1=some (l,s')∨(∃s2,d1 (.one .un) σ s2=some (l,s'))→OpsR X e σ g (.st k a x) l:=by
   intro new hnew hnew2 hkk' hl;have hl':l=[(.one .un,σ)]:=by
    rcases hl with hl|⟨s2,hl⟩<;>(cases hl;rfl)
   subst hl';refine⟨_,_,st_run q1 ho r1 (by rw[List.length_map];exact hkk'.2) (by rw[List.length_map];omega),_,List.mem_cons_self,Nat.le_refl _,rfl,e,.refl _ _,fun e' he=>?_⟩;have he:Agr σ.nv e e':=he;obtain⟨hon',j',hj',hx'⟩:=q2 e' he;injection hx' with hν' hjj
   obtain⟨m2,hm2,hc2⟩:=elem_all hk1 hW hf (.inl ⟨_,rfl⟩) ho he hon' hν'.symm;have hnn':=same_ok (hW e' he).fa hs1;have hres:=hnew e' j' m2 he hon' hν'.symm hjj.symm (by omega) hc2 hm2 (hW e' he).fa;have h6:=setO_ok (hW e' he) hf hon' (ao':=.M e0 t ps n') (o:=.ob e0 false (new.map .v)) ⟨new,k',m2,rfl,hm2,hres⟩;rw[←hν',hnew2,splice_map2]at h6;refine⟨⟨h6.tm,?_,?_,h6.me,h6.fa⟩,rfl⟩
   ·intro nm2 ao2 hf2 hon2
    refine h6.ob nm2 ao2 ?_ hon2;show findO nm2 ((nm,_)::σ.ob)=some ao2;rw[findO_cons]
    split
    ·rename_i he2;subst he2
     have hf2:findO nm σ.ob=some ao2:=hf2;rw[hf]at hf2;exact hf2
    ·exact hf2
   ·exact(hW e' he).inj
  rw[brec']at h
  split at h
  ·rename_i hw
   rw[brec']at hw
   split at hw
   case isFalse=>cases hw
   rename_i hk;rw[beq_iff]at hw hk;subst hk;subst hw
   split at h
   case h_2=>cases h
   rename_i s2 hs2;have hvl:vs.length=k:=by
    have:=acf_ok hW.holds.fa hs2 (r2 e (.refl _ _));exact this.len hk1
   refine fin (splice vs (j*k+0) us) ?_ rfl ⟨by omega,hvl⟩ (.inr ⟨s2,h⟩);intro e' j' m2 he _ _ hjj hlt hc2 hm2 hF;have hE:=acf_ok hF hs2 (us:=vs) (r2 e' he);have:=hc2.set hlt hE;rw[Nat.add_zero];rw[Nat.add_zero,Nat.add_zero]at hjj;rw[←hjj];exact this
  ·split at h
   ·rename_i c
    rw[brec']at h
    split at h
    case isFalse=>cases h
    rename_i hb;rw[brec']at hb
    split at hb
    case isFalse=>cases hb
    rename_i hk;rw[beq_iff]at hb;rw[ble_iff]at hk;subst hb
    split at h
    case h_2=>cases h
    rename_i s2 hs2;have hvs:∃u,vs=[u]:=by
     have:=(r2 e (.refl _ _)).len;rw[List.length_map]at this
     cases vs with
     |nil=>cases this
     |cons u t=>cases t with
      |nil=>exact⟨u,rfl⟩
      |cons _ _=>simp at this
    obtain⟨u,rfl⟩:=hvs;refine fin (splice [u] (j*k'+off) us) ?_ rfl ⟨by omega,rfl⟩ (.inr ⟨s2,h⟩);intro e' j' m2 he _ _ hjj hlt hc2 hm2 hF;have hcu:gaC X e' c (.v u):=by
     have:=r2 e' he
     cases this;assumption
    have hE:=acf1_ok hF hs2 hcu (hc2.2.2 j' hlt);have h8:=hc2.set hlt hE;have h9:splice (splice [u] off ((us.drop (j'*k')).take k')) (j'*k') us=splice [u] (j'*k'+off) us:=by
     have l1:(j'+1)*k'≤m2*k':=Nat.mul_le_mul_right _ hlt;rw[Nat.succ_mul]at l1;have l2:=hc2.2.1;have l3:((us.drop (j'*k')).take k').length=k':=by rw[List.length_take,List.length_drop];omega
     refine List.ext_getElem? fun z=>?_
     rw[splice_get _ _ _ (by rw[splice_len,l3];omega),splice_get _ _ _ (by simp;omega),splice_len,l3]
     split
     ·rename_i hz
      rw[splice_get _ _ _ (by simp only[List.length_cons,List.length_nil];omega)]
      by_cases hzo:z=j'*k'+off
      ·subst hzo
       rw[if_pos (by simp),if_pos (by simp)];congr 1;omega
      ·rw[if_neg (by simp;omega),if_neg (by simp;omega),List.getElem?_take,if_pos (by omega),List.getElem?_drop]
       congr 1;omega
     ·rename_i hz
      rw[splice_get _ _ _ (by simp only[List.length_cons,List.length_nil];omega),if_neg (by simp;omega)]
    rw[h9]at h8;have hjj':j'*k'=j*k':=by omega
    rw[hjj']at h8;exact h8
   ·cases h
 ·cases h
theorem acfL_conv {fa:Tr Lin} {e':AEnv} (hF:Facts e'.ρ fa) {nm e0 k:Nat} {cs:List AC} {n:Lin} {ao:AO} {s s':Scr} (h:aX2M X nm e0 cs n k σ s=some (ao,s')) (hfa:σ.fa=fa):∃t ps m,ao=.M e0 t ps n∧kOf X.T t=some k∧all isP cs=true∧lnat n=some m∧
 ∀us:List U,Al (gaC X e') cs (us.map .v)→CfL X.T t (ps.map (lv e'.ρ)) k m us:=by
 subst hfa;unfold aX2M at h
 split at h
 case h_2=>cases h
 rename_i t ht
 split at h
 case h_2=>cases h
 rename_i ty hty
 split at h
 case h_2=>cases h
 rename_i m hm;rw[brec']at h
 split at h
 case isFalse=>cases h
 rename_i hb;rw[brec']at hb
 split at hb
 case isFalse=>cases hb
 rename_i hk;rw[beq_iff]at hk
 split at h
 case h_2=>cases h
 rename_i s1 hs1
 cases h
 have hk':kOf X.T t=some k:=by rw[kOf_of hty,hk]
 exact⟨t,_,m,rfl,hk',hb,hm,fun us hus=>acfL_ok hF hk' hs1 hus⟩
theorem aias_ok (hW:W X e σ g) {k:Nat} {x ix:A} {l:List (AD×AS)} {s s':Scr} (h:aias X k x ix σ s=some (l,s')):OpsR X e σ g (.ias k x ix) l:=by
 unfold aias at h
 split at h
 ·rename_i nm k0 n kd j hx hj
  rw[brec']at h
  split at h
  case isFalse=>cases h
  rename_i hkk;rw[beq_iff]at hkk;subst hkk
  split at h
  case h_2=>cases h
  rename_i s1 hs1;obtain⟨y,q1,q2⟩:=cels_all hW hx;obtain⟨jn,q3,q4⟩:=ints_all hW hj;have n1:=needs_ok hW.holds.fa hs1 j (by simp);have n2:=needs_ok hW.holds.fa hs1 (lsub1 (lsub n j)) (by simp);rw[q4 e (.refl _ _)]at n1;rw[lv_sub1,lv_sub,q4 e (.refl _ _)]at n2;obtain⟨jm,rfl⟩:=int_nat n1;rcases own_or (q2 e (.refl _ _))with rfl|⟨i,m0,rfl⟩
  ·have:=(own_nil (q2 e (.refl _ _))).2
   omega
  ·obtain⟨hon,hν,_,hm0⟩:=own_at (q2 e (.refl _ _))
   have hjm:jm<m0:=by omega
   have hrun:grd X.P (.ias k x ix) g.tm g.hp=some (.one (.loc i (jm*k)),g.hp):=by simp only[grd,q1,q3,idx_of hjm]
   have own':∀e',Agr σ.nv e e'→e'.on nm=true∧e'.ν nm=i∧(m0:Int)=lv e'.ρ n:=fun e' he=>by
    obtain⟨a1,a2,_,a4⟩:=own_at (q2 e' he);exact⟨a1,a2,a4⟩
   have eloc:∀σ',Same σ σ'→W X e σ' g→d1 (.one (.eloc nm k n 0)) σ' s1=some (l,s')∨(∃s2,d1 (.one (.eloc nm k n 0)) σ' s2=some (l,s'))→OpsR X e σ g (.ias k x ix) l:=by
    intro σ' hs hW' hl;have hl':l=[(.one (.eloc nm k n 0),σ')]:=by
     rcases hl with hl|⟨s2,hl⟩<;>(cases hl;rfl)
    subst hl';refine⟨_,_,hrun,_,List.mem_cons_self,opR_pure hs hW' fun e' he=>?_⟩;obtain⟨a1,a2,a3⟩:=own' e' he;exact⟨a1,jm,by omega,by rw[a2];rfl⟩
   split at h
   ·rename_i e0 cs hf
    split at h
    ·rename_i j1 hj1
     cases h
     have hjj:(j1:Int)=jm:=by rw[←lnat_ok hj1 e.ρ];exact q4 e (.refl _ _)
     have hjj:j1=jm:=by omega
     subst hjj;refine⟨_,_,hrun,_,List.mem_cons_self,opR_pure (.refl _) hW fun e' he=>?_⟩;obtain⟨a1,a2,_⟩:=own' e' he;exact⟨a1,by rw[a2]⟩
    ·split at h
     case h_2=>cases h
     rename_i ao s2 hs2;obtain⟨o,ho,gs,rfl,hgs⟩:=hW.holds.ob nm _ hf hon;obtain⟨_,_,_,_,_,hpu,_,_⟩:=acfL_conv hW.holds.fa hs2 rfl;obtain⟨us,rfl⟩:=pures hpu hgs;have hW':W X e (putO nm ao σ) g:=by
      intro e' he;have he:Agr σ.nv e e':=he;obtain⟨a1,a2,a3⟩:=own' e' he;obtain⟨o',ho',gs',rfl,hgs'⟩:=(hW e' he).ob nm _ hf a1;rw[a2,←hν,ho]at ho';injection ho' with ho'
      injection ho' with _ _ ho'
      subst ho';obtain⟨t,ps,m,rfl,b1,b2,b3,b4⟩:=acfL_conv (hW e' he).fa hs2 rfl;have b5:=b4 us hgs';have h6:=setO_ok (hW e' he) hf a1 (ao':=.M e0 t ps n) (o:=.ob e0 false (us.map .v)) ⟨us,k,m,rfl,(lnat_ok b3 e'.ρ).symm,b5⟩;rw[a2,←hν,setO_same ho]at h6;exact h6
     have hso:Same σ (putO nm ao σ)∨True:=.inr trivial
     cases h
     refine⟨_,_,hrun,_,List.mem_cons_self,Nat.le_refl _,rfl,e,.refl _ _,fun e' he=>?_⟩;obtain⟨a1,a2,a3⟩:=own' e' he;exact⟨hW' e' he,a1,jm,by omega,by rw[a2];rfl⟩
   ·exact eloc σ (.refl _) hW (.inl h)
   ·exact eloc σ (.refl _) hW (.inl h)
   ·cases h
 ·rename_i t ps n nm kd j hx hj
  split at h
  case h_2=>cases h
  rename_i s1 hs1
  split at h
  case h_2=>cases h
  rename_i k1 hk1;rw[brec']at h
  split at h
  case isFalse=>cases h
  rename_i hkk;rw[beq_iff]at hkk;subst hkk;obtain⟨y,q1,q2⟩:=cels_all hW hx;obtain⟨jn,q3,q4⟩:=ints_all hW hj;have n1:=needs_ok hW.holds.fa hs1 j (by simp);have n2:=needs_ok hW.holds.fa hs1 (lsub1 (lsub n j)) (by simp);rw[q4 e (.refl _ _)]at n1;rw[lv_sub1,lv_sub,q4 e (.refl _ _)]at n2;obtain⟨jm,rfl⟩:=int_nat n1;rcases q2 e (.refl _ _)with⟨rfl,hn0⟩|⟨k0,m,rfl,hm,hc⟩
  ·omega
  ·have hk0:k0=k:=by have:=hc.1;rw[hk1]at this;exact(Option.some.inj this).symm
   subst hk0;have hjm:jm<m:=by omega
   have hrun:grd X.P (.ias k0 x ix) g.tm g.hp=some (.one (.floc (e.L nm) (jm*k0)),g.hp):=by simp only[grd,q1,q3,idx_of hjm]
   have all':∀e',Agr σ.nv e e'→e'.L nm=e.L nm:=fun e' he=>by
    rcases q2 e' he with⟨h1,_⟩|⟨k2,m2,h1,_,_⟩
    ·cases h1
    ·injection h1 with h1;injection h1 with _ _ h1;exact h1.symm
   split at h
   ·cases h
    refine⟨_,_,hrun,_,List.mem_cons_self,opR_pure (.refl _) hW fun e' he=>?_⟩;exact⟨jm,(q4 e' he).symm,by rw[all' e' he];rfl⟩
   ·rw[brec']at h
    split at h
    case isFalse=>cases h
    rename_i hscope
    split at h
    case h_2=>cases h
    rename_i cs σ' hcs
    cases h
    obtain⟨r1,r2,r3,r4,r5,e1,r6,r7⟩:=afe_ok hW (hc.2.2 jm hjm) hcs;refine⟨_,_,hrun,_,List.mem_cons_self,r1,r5,e1,r6,fun e' he=>?_⟩;obtain⟨p1,p2,p3⟩:=r7 e' he;have hj':=q4 e' p1;refine⟨⟨p2.tm,p2.ob,p2.inj,fun z hz=>?_,p2.fa⟩,jm,hj'.symm,by rw[all' e' p1];rfl⟩;have hz:z∈(nm,j,cs)::σ'.me:=hz;simp only[List.mem_cons]at hz;rcases hz with rfl|hz
    ·have hcl:cs.length=k0:=by
      have:=p3.len;rw[List.length_map]at this;rw[this,(hc.2.2 jm hjm).len hk1]
     exact⟨jm,hj'.symm,_,rfl,by
      show Al (gaC X e') cs ((((e'.L nm).drop (jm*cs.length)).take cs.length).map .v);rw[all' e' p1,hcl];exact p3⟩
    ·exact p2.me z hz
 ·cases h
theorem u8ok_ok {ty:STy} {t:Nat} (hT:X.T t=some ty) (h:u8ok ty=true) {b:Nat} (hb:b<256):CfE X.T t [] [.int .u8 (b:Int)]:=by
 unfold u8ok at h
 split at h
 case h_2=>cases h
 rename_i hcs;rw[brec']at h
 split at h
 case isFalse=>cases h
 have hne:=h;refine .mk _ _ _ ty [(b:Int)] hT (by rw[hcs];exact .cons _ _ _ _ _ _ _ (.int ..) (.nil _)) fun x hx=>?_
 have hx1:=all_true hne x hx;obtain⟨c,l⟩:=x;have hs0:sval [(b:Int)] [] 0=(b:Int):=rfl
 cases l with
 |nil=>
  have hx1:ile 0 c=true:=hx1;rw[ile_iff]at hx1;show 0≤c+0;omega
 |cons p l=>
  obtain⟨v,a⟩:=p
  cases v with
  |succ v=>cases hx1
  |zero=>
   cases l with
   |cons _ _=>cases hx1
   |nil=>
    have hx1:(Bool.rec false (ile 0 (Int.add c (Int.mul 255 a))) (ile 0 c):Bool)=true:=hx1;rw[brec']at hx1
    split at hx1
    case isFalse=>cases hx1
    rename_i h0;rw[ile_iff]at hx1 h0;have hx1:0≤c+255*a:=hx1;show 0≤c+(a*sval [(b:Int)] [] 0+0);rw[hs0];rcases Int.le_total 0 a with ha|ha
    ·have:0≤a*(b:Int):=Int.mul_nonneg ha (by omega)
     omega
    ·have:a*255≤a*(b:Int):=Int.mul_le_mul_of_nonpos_left ha (by omega)
     omega
theorem u8s_ok {ty:STy} {t:Nat} (hT:X.T t=some ty) (h:u8ok ty=true):∀{l:List Nat},(∀b∈l,b<256)→CfL X.T t [] 1 l.length (l.map fun b:Nat=>U.int .u8 (b:Int)):=by
 have hk:kOf X.T t=some 1:=by
  rw[kOf_of hT];unfold u8ok at h
  split at h
  ·rename_i hcs;rw[hcs];rfl
  ·cases h
 intro l
 induction l with
 |nil=>intro _;exact .nil hk
 |cons b l ih=>
  intro hb;have:=(CfL.one hk (u8ok_ok hT h (hb b List.mem_cons_self))).app (ih fun c hc=>hb c (List.mem_cons_of_mem _ hc));rw[Nat.add_comm]at this;exact this
theorem ard1_ok (hW:W X e σ g) {i:I} {l:List (AD×AS)} {s s':Scr} (h:ard1 X i σ s=some (l,s')):OpsR X e σ g i l:=by
 cases i with
 |alloc e0 zs=>
  simp only[ard1]at h
  split at h
  case h_2=>cases h
  rename_i gs hgs;obtain⟨gs',k1,k2⟩:=consts_all (X:=X) hgs e;refine aobj_ok hW h (fun e' he=>⟨gs',rfl,k2 e' rfl⟩) (d':=.loc g.hp.length 0) (fun e' h1 h2 _=>⟨h1,by rw[h2]⟩) ?_;simp only[grd,k1,len_eq,gnew,app_eq]
 |box e0 k x=>
  simp only[ard1]at h
  split at h
  case h_2=>cases h
  rename_i m hm;rw[brec']at h
  split at h
  case isFalse=>cases h
  rename_i hb;rw[beq_iff,len_eq]at hb;obtain⟨m',k1,k2⟩:=cells_all hW hm;have hb':Nat.beq (len m') k=true:=by rw[len_eq,←(k2 e (.refl _ _)).len,beq_iff];exact hb
  refine aobj_ok hW h (fun e' he=>⟨m',rfl,k2 e' he⟩) (d':=.loc g.hp.length 0) (fun e' h1 h2 _=>⟨h1,by rw[h2]⟩) ?_;simp only[grd,k1,hb',gnew,app_eq];rw[len_eq]
 |bsl e0 k n zs ps=>
  simp only[ard1]at h
  split at h
  case h_2=>cases h
  rename_i gs hgs
  split at h
  case h_2=>cases h
  rename_i m hm;obtain⟨gs',k1,k2⟩:=consts_all (X:=X) hgs e;obtain⟨m',k3,k4⟩:=afill_ok hW hm (zs':=rep n gs') fun e' he=>Al.rep (k2 e' rfl) n
  refine aobj_ok hW h (fun e' he=>⟨m',rfl,k4 e' he⟩) (d':=.own g.hp.length k n) (fun e' h1 h2 _=>.inl ⟨h1,n,by rw[lv_K];rfl,by rw[h2]⟩) ?_;simp only[grd,k1,k3,gnew,app_eq];rw[len_eq]
 |mk e0 k n zs=>
  simp only[ard1]at h
  split at h
  case h_2=>cases h
  rename_i gs t hgs ht
  split at h
  case h_2=>cases h
  rename_i ty hty;rw[brec']at h
  split at h
  case isFalse=>cases h
  rename_i hb;rw[brec']at hb
  split at hb
  case isFalse=>cases hb
  rename_i hk;rw[beq_iff]at hk
  split at h
  case h_2=>cases h
  rename_i s1 hs1;obtain⟨gs',k1,k2⟩:=consts_all (X:=X) hgs e;obtain⟨us,rfl⟩:=pures hb (k2 e rfl);have hk':kOf X.T t=some k:=by rw[kOf_of hty,hk]
  refine aobj_ok hW h (o:=.ob e0 false ((rep n us).map .v)) (fun e' he=>⟨rep n us,k,n,rfl,by rw[lv_K];rfl,.rep hk' (acf_ok (hW e' he).fa hs1 (k2 e' rfl)) n⟩) (d':=.own g.hp.length k n) (fun e' h1 h2 _=>.inl ⟨h1,n,by rw[lv_K];rfl,by rw[h2]⟩) ?_;have hrep:rep n (us.map G.v)=(rep n us).map G.v:=by
   clear h hs1
   induction n with
   |zero=>rfl
   |succ n ih=>rw[rep_succ,rep_succ,List.map_append,ih]
  simp only[grd,k1,gnew,app_eq,hrep];rw[len_eq]
 |ld k ag a=>exact ald_ok hW h
 |st k a x=>exact ast_ok hW h
 |ias k x ix=>exact aias_ok hW h
 |s2b e0 x=>
  simp only[ard1]at h
  split at h
  case h_2=>cases h
  rename_i n t hx ht
  split at h
  case h_2=>cases h
  rename_i ty hty;rw[brec']at h
  split at h
  case isFalse=>cases h
  rename_i hb;rw[brec']at hb
  split at hb
  case isFalse=>cases hb
  rename_i hu;obtain⟨l1,k0,k1,k2,k3⟩:=strs_all hW hx;refine aobj_ok hW h (o:=.ob e0 false ((l1.map fun b:Nat=>U.int .u8 (b:Int)).map .v)) (fun e' he=>⟨_,1,l1.length,rfl,k3 e' he,u8s_ok hty hb k2⟩) (d':=.own g.hp.length 1 l1.length) (fun e' h1 h2 he=>.inl ⟨h1,l1.length,k3 e' he,by rw[h2]⟩) ?_;simp only[grd,k1,gnew,app_eq,maps_eq,len_eq,List.map_map];rfl
 |_=>cases h
end
end Go.Proofs.YtiahijhpjloijaaGreat.V

namespace Go.Proofs.YtiahijhpjloijaaGreat.V
open Go
inductive YC where
 |ex (cs:List AC) (m:Nat)
 |ty (t:Nat) (ps:List Lin) (n:Lin)
noncomputable def ycN (y:YC):Lin:=match y with| .ex _ m=>lK (.ofNat m)| .ty _ _ n=>n
noncomputable def aY (X:Cx) (k:Nat) (y:AC) (σ:AS) (s:Scr):Option (YC×Scr):=
 match y with
 | .nil=>some (.ex [] 0,s)
 | .sl t ps n _=>Bool.rec none (some (.ty t ps n,s)) (kEq X t k)
 | .own nm k' n=>Bool.rec none (match findO nm σ.ob with
   |some (.X _ cs)=>match lnat n with
    |some m=>Bool.rec none (some (.ex cs m,s)) (Nat.beq (len cs) (m*k))
    |none=>none
   |some (.M _ t ps n')=>Bool.rec none (match same σ.fa n n' s with|some s=>some (.ty t ps n,s)|none=>none) (kEq X t k)
   |some (.F _ t ps n' _)=>Bool.rec none (match same σ.fa n n' s with|some s=>some (.ty t ps n,s)|none=>none) (kEq X t k)
   |_=>none) (Nat.beq k k')
 |_=>none
noncomputable def acomb (X:Cx) (e k:Nat) (x y:YC) (σ:AS) (s:Scr):Option (AO×Scr):=
 match x,y with
 | .ex cs _,.ex cs' _=>some (.X e (app cs cs'),s)
 | .ty t ps n,.ty t' ps' n'=>Bool.rec none (match awk X.T σ.fa t ps' ps s with|some s=>some (.M e t ps (ladd n n'),s)|none=>none) (Nat.beq t t')
 | .ty t ps n,.ex cs m=>Bool.rec none (match acfL X.T σ.fa t ps k m cs s with|some s=>some (.M e t ps (ladd n (lK (.ofNat m))),s)|none=>none) (Bool.rec false (kEq X t k) (all isP cs))
 | .ex cs m,.ty t ps n=>Bool.rec none (match acfL X.T σ.fa t ps k m cs s with|some s=>some (.M e t ps (ladd (lK (.ofNat m)) n),s)|none=>none) (Bool.rec false (kEq X t k) (all isP cs))
noncomputable def roomy (b:Nat) (n:Lin):Lin:=lsub (lK (.ofNat room)) (lsc (.ofNat b) n)
noncomputable def agrow (X:Cx) (e k b:Nat) (x:AC) (y:YC) (σ:AS) (s:Scr):Ress:=
 Bool.rec none (match x with
 | .nil=>match acomb X e k (.ex [] 0) y σ s with
   |some (ao,s)=>match need σ.fa (roomy b (ladd (lK 0) (ycN y))) s with
    |some s=>d1 (.one (.own σ.nv k (ladd (lK 0) (ycN y)))) (anew ao σ) s
    |none=>none
   |none=>none
 | .own nm k' n=>match findO nm σ.ob with
   |some (.X e' cs)=>match lnat n with
    |some m=>Bool.rec none (match acomb X e k (.ex cs m) y σ s with
     |some (ao,s)=>match need σ.fa (roomy b (ladd n (ycN y))) s with
      |some s=>d1 (.one (.own σ.nv k (ladd n (ycN y)))) (anew ao (putO nm .dead σ)) s
      |none=>none
     |none=>none) (Bool.rec false (Bool.rec false (Nat.beq (len cs) (m*k)) (Nat.beq e' e)) (Nat.beq k k'))
    |none=>none
   |some (.M e' t ps n')=>Bool.rec none (match same σ.fa n n' s with
    |some s=>match acomb X e k (.ty t ps n) y σ s with
     |some (ao,s)=>match need σ.fa (roomy b (ladd n (ycN y))) s with
      |some s=>d1 (.one (.own σ.nv k (ladd n (ycN y)))) (anew ao (putO nm .dead σ)) s
      |none=>none
     |none=>none
    |none=>none) (Bool.rec false (Bool.rec false (kEq X t k) (Nat.beq e' e)) (Nat.beq k k'))
   |_=>none
 |_=>none) (okNames σ)
noncomputable def abnds (lo hi:Option A) (n:Lin) (σ:AS) (s:Scr):Option (Lin×Lin×Scr):=
 match(match hi with|none=>some n|some h=>match aint σ.tm h with|some (_,h)=>some h|none=>none),(match lo with|none=>some (lK 0)|some l=>match aint σ.tm l with|some (_,l)=>some l|none=>none)with
 |some h,some l=>match needs σ.fa [l,lsub h l,lsub n h] s with
  |some s=>some (h,l,s)
  |none=>none
 |_,_=>none
noncomputable def acut (X:Cx) (k:Nat) (lo hi:Option A) (t:Nat) (ps:List Lin) (n:Lin) (σ:AS) (s:Scr):Ress:=
 Bool.rec none (match abnds lo hi n σ s with
  |some (h,l,s)=>d1 (.one (.sl t ps (lsub h l) σ.nv)) (bump 1 σ) s
  |none=>none) (kEq X t k)
noncomputable def ard2 (X:Cx) (i:I) (σ:AS) (s:Scr):Ress:=
 match i with
 | .sl k x lo hi=>match acel σ.tm x with
   |some .nil=>match abnds lo hi (lK 0) σ s with|some (_,_,s)=>d1 (.one .nil) σ s|none=>none
   |some (.sl t ps n nm)=>acut X k lo hi t ps n σ s
   |some (.own nm k' n)=>match afr X 7 σ (.own nm k' n) s with
    |some (.sl t ps n _,σ',s)=>acut X k lo hi t ps n σ' s
    |_=>none
   |_=>none
 | .ap e k b x y=>match acel σ.tm x,acel σ.tm y with
   |some x,some y=>match aY X k y σ s with
    |some (yc,s)=>agrow X e k b x yc σ s
    |none=>none
   |_,_=>none
 | .aps e b x y=>match acel σ.tm x,acel σ.tm y,X.ety e with
   |some x,some (.str n),some t=>match X.T t with
    |some ty=>Bool.rec none (agrow X e 1 b x (.ty t [] n) σ s) (u8ok ty)
    |none=>none
   |_,_,_=>none
 | .apz e k b zs x y=>match acel σ.tm x,aint σ.tm y,X.ety e with
   |some x,some (_,n),some t=>match each cAC zs,X.T t with
    |some gs,some ty=>Bool.rec none (match acf X.T σ.fa t (maps lK ty.dps) gs s with
     |some s=>match needs σ.fa [n,roomy b n] s with
      |some s=>agrow X e k b x (.ty t (maps lK ty.dps) n) σ s
      |none=>none
     |none=>none) (Bool.rec false (kEq X t k) (all isP gs))
    |_,_=>none
   |_,_,_=>none
 | .b2s x=>match acel σ.tm x with
   |some c=>match aY X 1 c σ s with
    |some (.ex [] 0,s)=>d1 (.one (.str (lK 0))) σ s
    |some (.ty t ps n,s)=>match X.T t with
     |some ty=>Bool.rec none (d1 (.one (.str n)) σ s) (u8all ty)
     |none=>none
    |_=>none
   |none=>none
 |_=>none
section
variable{X:Cx} {e:AEnv} {σ:AS} {g:GS}
theorem offN_ok {n:Nat} {ao:AO} (h:Holds X e σ g) (hon:e.on n=false):Holds X e (putO n ao σ) g:=by
 refine⟨h.tm,fun nm a hfa hona=>?_,fun a b ha hb hoa hob hab=>?_,h.me,h.fa⟩
 ·have hf2:findO nm ((n,ao)::σ.ob)=some a:=hfa
  clear hfa;rw[findO_cons]at hf2
  split at hf2
  ·rename_i he;subst he;rw[hon]at hona;cases hona
  ·exact h.ob nm a hf2 hona
 ·have inj:∀c,e.on c=true→findO c ((n,ao)::σ.ob)≠none→findO c σ.ob≠none:=by
   intro c hoc hc;rw[findO_cons]at hc
   split at hc
   ·rename_i he;subst he;rw[hon]at hoc;cases hoc
   ·exact hc
  exact h.inj a b (inj a hoa ha) (inj b hob hb) hoa hob hab
def YOk (X:Cx) (e:AEnv) (σ:AS) (k:Nat) (y:YC) (m:Nat) (gs:List G):Prop:=
 gs.length=m*k∧match y with
 | .ex cs m'=>m=m'∧∀e',Agr σ.nv e e'→Al (gaC X e') cs gs
 | .ty t ps n=>∃us:List U,gs=us.map .v∧∀e',Agr σ.nv e e'→lv e'.ρ n=m∧CfL X.T t (ps.map (lv e'.ρ)) k m us
theorem YOk.n {k m:Nat} {y:YC} {gs:List G} (h:YOk X e σ k y m gs):∀e',Agr σ.nv e e'→lv e'.ρ (ycN y)=m:=by
 intro e' he
 cases y with
 |ex cs m'=>obtain⟨_,rfl,_⟩:=h;show lv e'.ρ (lK _)=_;rw[lv_K];rfl
 |ty t ps n=>obtain⟨_,us,_,h2⟩:=h;exact(h2 e' he).1
theorem aY_ok (hW:W X e σ g) {k:Nat} {y:AC} {y0:G} {yc:YC} {s s':Scr} (h:aY X k y σ s=some (yc,s')) (hy:∀e',Agr σ.nv e e'→gaC X e' y y0):
 ∃kk m gs,gelems g.hp y0=some (kk,m,gs)∧YOk X e σ k yc m gs∧(kk=k∨kk=1):=by
 unfold aY at h
 split at h
 ·cases h
  have:y0=.v .nil:=hy e (.refl _ _);subst this;exact⟨1,0,[],rfl,⟨by simp,rfl,fun _ _=>.nil⟩,.inr rfl⟩
 ·rename_i t ps n nm
  rw[brec']at h
  split at h
  case isFalse=>cases h
  rename_i hk;have hk:=kEq_ok hk
  cases h
  rcases hy e (.refl _ _)with⟨rfl,hn⟩|⟨k0,m,rfl,hm,hc⟩
  ·refine⟨1,0,[],rfl,⟨by simp,[],rfl,fun e' he=>?_⟩,.inr rfl⟩
   rcases hy e' he with⟨_,hn'⟩|⟨_,_,h1,_⟩
   ·exact⟨hn',.nil hk⟩
   ·cases h1
  ·have hkk:k0=k:=by have:=hc.1;rw[hk]at this;exact(Option.some.inj this).symm
   subst hkk;refine⟨k0,m,(e.L nm).map .v,?_,⟨by rw[List.length_map];exact hc.2.1,e.L nm,rfl,fun e' he=>?_⟩,.inl rfl⟩
   ·show(Bool.rec none (some (k0,m,mapsV (e.L nm))) (Nat.beq (len (e.L nm)) (m*k0)):Option (Nat×Nat×List G))=_
    have:Nat.beq (len (e.L nm)) (m*k0)=true:=by rw[len_eq,beq_iff];exact hc.2.1
    rw[this,mapsV_eq]
   ·rcases hy e' he with⟨h1,_⟩|⟨k2,m2,h1,h2,h3⟩
    ·cases h1
    ·injection h1 with h1;injection h1 with h1 h4 h5
     subst h1;subst h4;exact⟨h2.symm,by rw[h5];exact h3⟩
 ·rename_i nm k' n
  rw[brec']at h
  split at h
  case isFalse=>cases h
  rename_i hkk;rw[beq_iff]at hkk;subst hkk;have typed:∀{t:Nat} {ps:List Lin} {n':Lin} {ao:AO} {s1:Scr},findO nm σ.ob=some ao→((∃e0,ao=.M e0 t ps n')∨∃e0 nm2,ao=.F e0 t ps n' nm2)→kOf X.T t=some k→same σ.fa n n' s=some s1→
   ∃kk m gs,gelems g.hp y0=some (kk,m,gs)∧YOk X e σ k (.ty t ps n) m gs∧(kk=k∨kk=1):=by
   intro t ps n' ao s1 hf hao hk hs;rcases own_or (hy e (.refl _ _))with rfl|⟨i,m0,rfl⟩
   ·exact⟨1,0,[],rfl,⟨by simp,[],rfl,fun e' he=>⟨(own_nil (hy e' he)).2,.nil hk⟩⟩,.inr rfl⟩
   ·obtain⟨hon,hν,_,hm0⟩:=own_at (hy e (.refl _ _))
    have hgo:∃(e0:Nat) (fr:Bool) (us:List U),g.hp[i]?=some (.ob e0 fr (us.map G.v)):=by
     obtain⟨o,ho,hgo⟩:=hW.holds.ob nm ao hf hon;rw[hν]at ho;rcases hao with⟨e1,rfl⟩|⟨e1,nm2,rfl⟩
     ·obtain⟨us,_,_,rfl,_⟩:=hgo;exact⟨_,_,us,ho⟩
     ·obtain⟨_,_,rfl,_⟩:=hgo;exact⟨_,_,_,ho⟩
    obtain⟨e0,fr,us,ho⟩:=hgo;have each':∀e',Agr σ.nv e e'→lv e'.ρ n=m0∧CfL X.T t (ps.map (lv e'.ρ)) k m0 us:=by
     intro e' he;obtain⟨hon',hν',_,hm0'⟩:=own_at (hy e' he);obtain⟨m,hm,hc⟩:=elem_all hk hW hf hao ho he hon' hν';have:=same_ok (hW e' he).fa hs;have:m=m0:=by omega
     subst this;exact⟨hm0'.symm,hc⟩
    have hul:=(each' e (.refl _ _)).2.2.1;refine⟨k,m0,us.map .v,?_,⟨by rw[List.length_map];exact hul,us,rfl,each'⟩,.inl rfl⟩;have hb:Nat.beq (len (us.map G.v)) (m0*k)=true:=by rw[len_eq,beq_iff,List.length_map];exact hul
    simp only[gelems,gobj_of ho,hb]
  split at h
  ·rename_i e0 cs hf
   split at h
   case h_2=>cases h
   rename_i m hm;rw[brec']at h
   split at h
   case isFalse=>cases h
   rename_i hb
   cases h
   rw[beq_iff,len_eq]at hb;rcases own_or (hy e (.refl _ _))with rfl|⟨i,m0,rfl⟩
   ·have h0:=(own_nil (hy e (.refl _ _))).2
    rw[lnat_ok hm]at h0;have:m=0:=by omega
    subst this;have:cs=[]:=List.eq_nil_of_length_eq_zero (by omega);subst this;exact⟨1,0,[],rfl,⟨by simp,rfl,fun _ _=>.nil⟩,.inr rfl⟩
   ·obtain⟨hon,hν,_,hm0⟩:=own_at (hy e (.refl _ _))
    rw[lnat_ok hm]at hm0;have:m0=m:=by omega
    subst this;obtain⟨o,ho,gs,rfl,hgs⟩:=hW.holds.ob nm _ hf hon;rw[hν]at ho;have hall:∀e',Agr σ.nv e e'→Al (gaC X e') cs gs:=fun e' he=>by
     obtain⟨hon',hν',_,_⟩:=own_at (hy e' he);obtain⟨o',ho',gs',rfl,hgs'⟩:=(hW e' he).ob nm _ hf hon';rw[hν',ho]at ho'
     cases ho'
     exact hgs'
    have hgl:gs.length=m0*k:=by rw[←hgs.len];exact hb
    refine⟨k,m0,gs,?_,⟨hgl,rfl,hall⟩,.inl rfl⟩;have hb':Nat.beq (len gs) (m0*k)=true:=by rw[len_eq,beq_iff];exact hgl
    simp only[gelems,gobj_of ho,hb']
  ·rename_i e0 t ps n' hf
   rw[brec']at h
   split at h
   case isFalse=>cases h
   rename_i hk
   split at h
   case h_2=>cases h
   rename_i s1 hs1
   cases h
   exact typed hf (.inl ⟨_,rfl⟩) (kEq_ok hk) hs1
  ·rename_i e0 t ps n' nm2 hf
   rw[brec']at h
   split at h
   case isFalse=>cases h
   rename_i hk
   split at h
   case h_2=>cases h
   rename_i s1 hs1
   cases h
   exact typed hf (.inr ⟨_,_,rfl⟩) (kEq_ok hk) hs1
  ·cases h
 ·cases h
theorem acomb_ok (hW:W X e σ g) {e0 k:Nat} {x y:YC} {m1 m2:Nat} {g1 g2:List G} {ao:AO} {s s':Scr} (h:acomb X e0 k x y σ s=some (ao,s')) (hx:YOk X e σ k x m1 g1) (hy:YOk X e σ k y m2 g2):
 (g1++g2).length=(m1+m2)*k∧∀e',Agr σ.nv e e'→gaO X e' ao (.ob e0 false (g1++g2)):=by
 refine⟨by rw[List.length_append,hx.1,hy.1,Nat.add_mul],?_⟩;unfold acomb at h
 split at h
 ·rename_i cs _ cs' _
  cases h
  intro e' he;rw[app_eq];exact⟨_,rfl,(hx.2.2 e' he).app (hy.2.2 e' he)⟩
 ·rename_i t ps n t' ps' n'
  rw[brec']at h
  split at h
  case isFalse=>cases h
  rename_i ht;rw[beq_iff]at ht;subst ht
  split at h
  case h_2=>cases h
  rename_i s1 hs1
  cases h
  obtain⟨_,us,rfl,h1⟩:=hx;obtain⟨_,vs,rfl,h2⟩:=hy;intro e' he;obtain⟨a1,a2⟩:=h1 e' he;obtain⟨b1,b2⟩:=h2 e' he;exact⟨us++vs,k,m1+m2,by rw[List.map_append],by rw[lv_add,a1,b1];omega,a2.app (awkL_ok hs1 (hW e' he).fa b2)⟩
 ·rename_i t ps n cs m
  rw[brec']at h
  split at h
  case isFalse=>cases h
  rename_i hb;rw[brec']at hb
  split at hb
  case isFalse=>cases hb
  rename_i hp
  split at h
  case h_2=>cases h
  rename_i s1 hs1
  cases h
  obtain⟨_,us,rfl,h1⟩:=hx;obtain⟨_,rfl,h2⟩:=hy;obtain⟨vs,rfl⟩:=pures hp (h2 e (.refl _ _));intro e' he;obtain⟨a1,a2⟩:=h1 e' he;exact⟨us++vs,k,m1+m2,by rw[List.map_append],by rw[lv_add,a1,lv_K];show(_:Int)=_+(m2:Int);omega,a2.app (acfL_ok (hW e' he).fa (kEq_ok hb) hs1 (h2 e' he))⟩
 ·rename_i cs m t ps n
  rw[brec']at h
  split at h
  case isFalse=>cases h
  rename_i hb;rw[brec']at hb
  split at hb
  case isFalse=>cases hb
  rename_i hp
  split at h
  case h_2=>cases h
  rename_i s1 hs1
  cases h
  obtain⟨_,rfl,h1⟩:=hx;obtain⟨_,vs,rfl,h2⟩:=hy;obtain⟨us,rfl⟩:=pures hp (h1 e (.refl _ _));intro e' he;obtain⟨b1,b2⟩:=h2 e' he;exact⟨us++vs,k,m1+m2,by rw[List.map_append],by rw[lv_add,b1,lv_K];show(_:Int)=(m1:Int)+_;omega,(acfL_ok (hW e' he).fa (kEq_ok hb) hs1 (h1 e' he)).app b2⟩
theorem grow_nil (hW:W X e σ g) (hnm:okNames σ=true) {σ1:AS} (hσ:σ1.nv=σ.nv) (hft:σ1.ft=σ.ft) (h1:∀e',Agr σ.nv e e'→Holds X e' σ1 g) (hnm1:∀a,findO σ.nv σ1.ob=some a→False) {e0 k b m:Nat} {gs:List G} {ao:AO} {n:Lin} (hn:∀e',Agr σ.nv e e'→lv e'.ρ n=m) (hgl:gs.length=m*k)
 (ho:∀e',Agr σ.nv e e'→gaO X e' ao (.ob e0 false gs)) (hr:m*b≤room):∃d' hp',ggrow g.hp e0 k b (.v .nil) m gs=some (d',hp')∧OpR X e σ g d' hp' (.one (.own σ.nv k n),anew ao σ1):=by
 cases m with
 |zero=>
  refine⟨.one (.v .nil),g.hp,rfl,by show σ.nv≤σ1.nv+1;omega,hft,e.put σ.nv 0 0 false [],agr_put _ _ _ _ _ _,fun e' he=>?_⟩;have he:Agr (σ1.nv+1) (e.put σ.nv 0 0 false []) e':=he;rw[hσ]at he;obtain⟨_,_,hoff,_⟩:=put_at _ _ _ _ _ _ he;have hee:Agr σ.nv e e':=(agr_put e σ.nv 0 0 false []).trans (he.mono (Nat.le_succ _));refine⟨?_,.inr ⟨hoff,rfl,hn e' hee⟩⟩;have:=offN_ok (n:=σ.nv) (ao:=ao) (h1 e' hee) hoff;unfold anew;rw[hσ];exact bump_holds this
 |succ m=>
  have hb:Nat.ble ((m+1)*b) room=true:=by rw[ble_iff];exact hr
  refine⟨.one (.own g.hp.length k (m+1)),g.hp++[.ob e0 false gs],?_,by show σ.nv≤σ1.nv+1;omega,hft,e.put σ.nv 0 g.hp.length true [],agr_put _ _ _ _ _ _,fun e' he=>?_⟩
  ·show(Bool.rec none (some (.one (.own (len g.hp) k (m+1)),gnew g.hp e0 gs)) (Nat.ble ((m+1)*b) room):Option (GD×List GO))=_
   rw[hb,len_eq];unfold gnew;rw[app_eq]
  ·have he:Agr (σ1.nv+1) (e.put σ.nv 0 g.hp.length true []) e':=he
   rw[hσ]at he;obtain⟨_,hν,hon,_⟩:=put_at _ _ _ _ _ _ he;have hee:Agr σ.nv e e':=(agr_put e σ.nv 0 g.hp.length true []).trans (he.mono (Nat.le_succ _));refine⟨?_,.inl ⟨hon,m+1,(hn e' hee).symm,by rw[hν]⟩⟩;unfold anew;rw[hσ];refine bump_holds (newO_ok (h1 e' hee) (.inl ?_) (fun _=>hν) (fun _=>ho e' hee) hnm1)
   cases hf:findO σ.nv σ1.ob with
   |none=>rfl
   |some a=>exact(hnm1 a hf).elim
theorem dead_free (hnm:okNames σ=true) {nm:Nat} {ao:AO} (hf:findO nm σ.ob=some ao) {o:AO}:∀a,findO σ.nv (putO nm o σ).ob=some a→False:=by
 intro a ha;have ha:findO σ.nv ((nm,o)::σ.ob)=some a:=ha;rw[findO_cons]at ha
 split at ha
 ·rename_i he
  have:=named hnm hf;omega
 ·exact nofree hnm a ha
theorem agrow_ok (hW:W X e σ g) {e0 k b:Nat} {x:AC} {x0:G} {y:YC} {m:Nat} {gs:List G} {l:List (AD×AS)} {s s':Scr} (h:agrow X e0 k b x y σ s=some (l,s')) (hx:∀e',Agr σ.nv e e'→gaC X e' x x0) (hy:YOk X e σ k y m gs):
 ∃d' hp',ggrow g.hp e0 k b x0 m gs=some (d',hp')∧∃z∈l,OpR X e σ g d' hp' z:=by
 unfold agrow at h;rw[brec']at h
 split at h
 case isFalse=>cases h
 rename_i hnm;have hyn:=hy.n;have own:∀{nm:Nat} {n:Lin} {ao0:AO} {xc:YC} {ao:AO} {s1 s2 s3:Scr},(∀e',Agr σ.nv e e'→gaC X e' (.own nm k n) x0)→findO nm σ.ob=some ao0→(x0=.v .nil→YOk X e σ k xc 0 [])→
  (∀i m0,x0=.own i k m0→∃old,g.hp[i]?=some (.ob e0 false old)∧YOk X e σ k xc m0 old)→
  acomb X e0 k xc y σ s1=some (ao,s2)→need σ.fa (roomy b (ladd n (ycN y))) s2=some s3→d1 (.one (.own σ.nv k (ladd n (ycN y)))) (anew ao (putO nm .dead σ)) s3=some (l,s')→
  ∃d' hp',ggrow g.hp e0 k b x0 m gs=some (d',hp')∧∃z∈l,OpR X e σ g d' hp' z:=by
  intro nm n ao0 xc ao s1 s2 s3 hx hf hnil hob hcomb hroom hd
  cases hd
  have hr:=need_ok hW.holds.fa hroom;unfold roomy at hr;rw[lv_sub,lv_K,lv_sc,lv_add,hyn e (.refl _ _)]at hr;rcases own_or (hx e (.refl _ _))with rfl|⟨i,m0,rfl⟩
  ·have hn0:=(own_nil (hx e (.refl _ _))).2
   rw[hn0,Int.zero_add]at hr;have hr:0≤(room:Int)-(b:Int)*(m:Int):=hr;have hr':m*b≤room:=by
    rw[Nat.mul_comm];have:((b*m:Nat):Int)≤room:=by rw[Int.natCast_mul];omega
    omega
   obtain⟨c1,c2⟩:=acomb_ok hW hcomb (hnil rfl) hy;rw[List.nil_append,Nat.zero_add]at c1;obtain⟨d',hp',q1,q2⟩:=grow_nil hW hnm (σ1:=putO nm .dead σ) rfl rfl (fun e' he=>offN_ok (hW e' he) (own_nil (hx e' he)).1) (dead_free hnm hf) (n:=ladd n (ycN y)) (fun e' he=>by rw[lv_add,(own_nil (hx e' he)).2,hyn e' he,Int.zero_add]) c1 (fun e' he=>by have:=c2 e' he;rw[List.nil_append]at this;exact this) hr';exact⟨d',hp',q1,_,List.mem_cons_self,q2⟩
  ·obtain⟨hon,hν,_,hm0⟩:=own_at (hx e (.refl _ _))
   obtain⟨old,ho,hxc⟩:=hob i m0 rfl;rw[←hm0]at hr;have hr:0≤(room:Int)-(b:Int)*((m0:Int)+(m:Int)):=hr;have hr':(m0+m)*b≤room:=by
    rw[Nat.mul_comm];have:((b*(m0+m):Nat):Int)≤room:=by rw[Int.natCast_mul];rw[Int.natCast_add];omega
    omega
   obtain⟨c1,c2⟩:=acomb_ok hW hcomb hxc hy;refine⟨.one (.own g.hp.length k (m0+m)),setO g.hp i .dead++[.ob e0 false (old++gs)],?_,_,List.mem_cons_self,Nat.le_succ _,rfl,e.put σ.nv 0 g.hp.length true [],agr_put _ _ _ _ _ _,fun e' he=>?_⟩
   ·have b1:Nat.ble ((m0+m)*b) room=true:=by rw[ble_iff];exact hr'
    have b2:Nat.beq (len old) (m0*k)=true:=by rw[len_eq,beq_iff];exact hxc.1
    show(match nth g.hp i with
     |some (.ob e' false old)=>(Bool.rec none (some (.one (.own (len g.hp) k (m0+m)),gnew (setO g.hp i .dead) e0 (app old gs)))
       (Bool.rec false (Bool.rec false (Bool.rec false (Nat.ble ((m0+m)*b) room) (Nat.beq k k):Bool) (Nat.beq (len old) (m0*k)):Bool) (Nat.beq e' e0):Bool):Option (GD×List GO))
     |_=>none)=_
    rw[nth_eq,ho];simp only[Nat.beq_refl,b1,b2];rw[len_eq,app_eq];unfold gnew;rw[app_eq]
   ·have he:Agr (σ.nv+1) (e.put σ.nv 0 g.hp.length true []) e':=he
    obtain⟨_,hν',hon',_⟩:=put_at _ _ _ _ _ _ he;have hee:Agr σ.nv e e':=(agr_put e σ.nv 0 g.hp.length true []).trans (he.mono (Nat.le_succ _));obtain⟨on2,ν2,_,m2⟩:=own_at (hx e' hee);have hdead:=setO_ok (hW e' hee) hf on2 (ao':=.dead) (o:=.dead) rfl;rw[ν2]at hdead;refine⟨bump_holds (newO_ok hdead (.inl ?_) (fun _=>by show e'.ν σ.nv=(setO g.hp i .dead).length;rw[hν',setO_len]) (fun _=>c2 e' hee) (dead_free hnm hf)),.inl ⟨hon',m0+m,by rw[lv_add,←m2,hyn e' hee];omega,by rw[hν']⟩⟩;show findO σ.nv (putO nm .dead σ).ob=none
    cases hf2:findO σ.nv (putO nm .dead σ).ob with
    |none=>rfl
    |some a=>exact(dead_free hnm hf a hf2).elim
 split at h
 ·split at h
  case h_2=>cases h
  rename_i ao s1 hcomb
  split at h
  case h_2=>cases h
  rename_i s2 hroom
  cases h
  have:x0=.v .nil:=hx e (.refl _ _);subst this;have hr:=need_ok hW.holds.fa hroom;unfold roomy at hr;rw[lv_sub,lv_K,lv_sc,lv_add,hyn e (.refl _ _),lv_K,Int.zero_add]at hr;have hr:0≤(room:Int)-(b:Int)*(m:Int):=hr;have hr':m*b≤room:=by
   rw[Nat.mul_comm];have:((b*m:Nat):Int)≤room:=by rw[Int.natCast_mul];omega
   omega
  obtain⟨c1,c2⟩:=acomb_ok hW hcomb (x:=.ex [] 0) (m1:=0) (g1:=[]) ⟨by simp,rfl,fun _ _=>.nil⟩ hy;rw[List.nil_append,Nat.zero_add]at c1;obtain⟨d',hp',q1,q2⟩:=grow_nil hW hnm (σ1:=σ) rfl rfl hW (nofree hnm) (n:=ladd (lK 0) (ycN y)) (fun e' he=>by rw[lv_add,lv_K,hyn e' he,Int.zero_add]) c1 (fun e' he=>by have:=c2 e' he;rw[List.nil_append]at this;exact this) hr';exact⟨d',hp',q1,_,List.mem_cons_self,q2⟩
 ·rename_i nm k' n
  split at h
  ·rename_i e' cs hf
   split at h
   case h_2=>cases h
   rename_i m1 hm1;rw[brec']at h
   split at h
   case isFalse=>cases h
   rename_i hb;rw[brec']at hb
   split at hb
   case isFalse=>cases hb
   rename_i hkk;rw[beq_iff]at hkk;subst hkk;rw[brec']at hb
   split at hb
   case isFalse=>cases hb
   rename_i hee;rw[beq_iff]at hee;subst hee;rw[beq_iff,len_eq]at hb
   split at h
   case h_2=>cases h
   rename_i ao s1 hcomb
   split at h
   case h_2=>cases h
   rename_i s2 hroom;refine own hx hf (xc:=.ex cs m1) ?_ ?_ hcomb hroom h
   ·rintro rfl
    have h0:=(own_nil (hx e (.refl _ _))).2;rw[lnat_ok hm1]at h0;have:m1=0:=by omega
    subst this;have:cs=[]:=List.eq_nil_of_length_eq_zero (by omega);subst this;exact⟨by simp,rfl,fun _ _=>.nil⟩
   ·rintro i m0 rfl
    obtain⟨hon,hν,hkk,hm0⟩:=own_at (hx e (.refl _ _));rw[lnat_ok hm1]at hm0;have:m0=m1:=by omega
    subst this;obtain⟨o,ho,old,rfl,hold⟩:=hW.holds.ob nm _ hf hon;rw[hν]at ho;refine⟨old,ho,by rw[←hold.len];exact hb,rfl,fun e' he=>?_⟩;obtain⟨hon',hν',_,_⟩:=own_at (hx e' he);obtain⟨o',ho',old',rfl,hold'⟩:=(hW e' he).ob nm _ hf hon';rw[hν',ho]at ho'
    cases ho'
    exact hold'
  ·rename_i e' t ps n' hf
   rw[brec']at h
   split at h
   case isFalse=>cases h
   rename_i hb;rw[brec']at hb
   split at hb
   case isFalse=>cases hb
   rename_i hkk;rw[beq_iff]at hkk;subst hkk;rw[brec']at hb
   split at hb
   case isFalse=>cases hb
   rename_i hee;rw[beq_iff]at hee;subst hee;have hk:=kEq_ok hb
   split at h
   case h_2=>cases h
   rename_i s0 hs0
   split at h
   case h_2=>cases h
   rename_i ao s1 hcomb
   split at h
   case h_2=>cases h
   rename_i s2 hroom;refine own hx hf (xc:=.ty t ps n) ?_ ?_ hcomb hroom h
   ·rintro rfl
    exact⟨by simp,[],rfl,fun e' he=>⟨(own_nil (hx e' he)).2,.nil hk⟩⟩
   ·rintro i m0 rfl
    obtain⟨hon,hν,hkk,hm0⟩:=own_at (hx e (.refl _ _));obtain⟨o,ho,us,k0,m1,rfl,hm1,hc⟩:=hW.holds.ob nm _ hf hon;rw[hν]at ho;have each':∀e',Agr σ.nv e e'→lv e'.ρ n=m0∧CfL X.T t (ps.map (lv e'.ρ)) k m0 us:=by
     intro e' he;obtain⟨hon',hν',_,hm0'⟩:=own_at (hx e' he);obtain⟨m,hm,hc⟩:=elem_all hk hW hf (.inl ⟨_,rfl⟩) ho he hon' hν';have:=same_ok (hW e' he).fa hs0;have:m=m0:=by omega
     subst this;exact⟨hm0'.symm,hc⟩
    exact⟨us.map .v,ho,by rw[List.length_map];exact(each' e (.refl _ _)).2.2.1,us,rfl,each'⟩
  ·cases h
 ·cases h
theorem abnds_ok (hW:W X e σ g) {lo hi:Option A} {n h l:Lin} {s s':Scr} {m:Nat} (hm:∀e',Agr σ.nv e e'→lv e'.ρ n=m) (hb:abnds lo hi n σ s=some (h,l,s')):
 ∃H L:Nat,L≤H∧H≤m∧gbnd g.tm hi m m=some H∧gbnd g.tm lo 0 H=some L∧∀e',Agr σ.nv e e'→lv e'.ρ h=H∧lv e'.ρ l=L:=by
 unfold abnds at hb
 split at hb
 case h_2=>cases hb
 rename_i hh ll hhi hlo
 split at hb
 case h_2=>cases hb
 rename_i s1 hs1
 cases hb
 have q1:=needs_ok hW.holds.fa hs1 l (by simp);have q2:=needs_ok hW.holds.fa hs1 (lsub h l) (by simp);have q3:=needs_ok hW.holds.fa hs1 (lsub n h) (by simp);rw[lv_sub]at q2 q3;rw[hm e (.refl _ _)]at q3;obtain⟨L,hL⟩:=int_nat q1;obtain⟨H,hH⟩:=int_nat (show 0≤lv e.ρ h by omega);have gH:gbnd g.tm hi m m=some H∧∀e',Agr σ.nv e e'→lv e'.ρ h=H:=by
  cases hi with
  |none=>
   cases hhi
   have:H=m:=by have:=hm e (.refl _ _);omega
   subst this;exact⟨rfl,hm⟩
  |some hA=>
   simp only[]at hhi
   split at hhi
   ·rename_i kd x1 hi1
    cases hhi
    obtain⟨n',k4,k5⟩:=ints_all hW hi1;have:n'=H:=by rw[←hH,k5 e (.refl _ _)]
    subst this;exact⟨gbnd_of k4 (by omega),k5⟩
   ·cases hhi
 have gL:gbnd g.tm lo 0 H=some L∧∀e',Agr σ.nv e e'→lv e'.ρ l=L:=by
  cases lo with
  |none=>
   cases hlo
   have:L=0:=by rw[lv_K]at hL;omega
   subst this;exact⟨rfl,fun e' he=>by rw[lv_K];rfl⟩
  |some lA=>
   simp only[]at hlo
   split at hlo
   ·rename_i kd x1 lo1
    cases hlo
    obtain⟨n',k4,k5⟩:=ints_all hW lo1;have:n'=L:=by rw[←hL,k5 e (.refl _ _)]
    subst this;exact⟨gbnd_of k4 (by omega),k5⟩
   ·cases hlo
 exact⟨H,L,by omega,by omega,gH.1,gL.1,fun e' he=>⟨gH.2 e' he,gL.2 e' he⟩⟩
theorem acut_ok {hp':List GO} {σ':AS} {e1:AEnv} (hnv:σ.nv≤σ'.nv) (hft:σ'.ft=σ.ft) (he1:Agr σ.nv e e1) (hW':W X e1 σ' ⟨g.tm,hp'⟩) {k t:Nat} {lo hi:Option A} {ps:List Lin} {n:Lin} {nm:Nat} {k' m:Nat} {us:List U} {l:List (AD×AS)} {s s':Scr}
 (h:acut X k lo hi t ps n σ' s=some (l,s')) (hx:∀e',Agr σ'.nv e1 e'→gaC X e' (.sl t ps n nm) (.v (.fz k' m us))):∃d',gcut g.tm k lo hi k' m us=some d'∧∃z∈l,OpR X e σ g d' hp' z:=by
 unfold acut at h;rw[brec']at h
 split at h
 case isFalse=>cases h
 rename_i hk;have hk:=kEq_ok hk
 split at h
 case h_2=>cases h
 rename_i hh ll s1 hb
 cases h
 have each':∀e',Agr σ'.nv e1 e'→lv e'.ρ n=m∧k'=k∧CfL X.T t (ps.map (lv e'.ρ)) k m us:=by
  intro e' he;rcases hx e' he with⟨h1,_⟩|⟨k2,m2,h1,h2,h3⟩
  ·cases h1
  ·injection h1 with h1;injection h1 with h1 h4 h5
   subst h1;subst h4;subst h5;have hkk:k'=k:=by have:=h3.1;rw[hk]at this;exact(Option.some.inj this).symm
   subst hkk;exact⟨h2.symm,rfl,h3⟩
 obtain⟨_,hkk,hc⟩:=each' e1 (.refl _ _);subst hkk;obtain⟨H,L,q1,q2,q3,q4,q5⟩:=abnds_ok hW' (fun e' he=>(each' e' he).1) hb;refine⟨.one (.v (.fz k' (H-L) ((us.drop (L*k')).take ((H-L)*k')))),?_,_,List.mem_cons_self,by show σ.nv≤σ'.nv+1;omega,hft,e1.put σ'.nv 0 0 false ((us.drop (L*k')).take ((H-L)*k')),he1.trans ((agr_put _ _ _ _ _ _).mono hnv),fun e' he=>?_⟩
 ·unfold gcut
  rw[q3];simp only[q4];have b1:Nat.beq (len us) (m*k')=true:=by rw[len_eq,beq_iff];exact hc.2.1
  rw[b1,Nat.beq_refl,take_eq,drop_eq]
 ·have he:Agr (σ'.nv+1) (e1.put σ'.nv 0 0 false ((us.drop (L*k')).take ((H-L)*k'))) e':=he
  obtain⟨_,_,_,hL⟩:=put_at _ _ _ _ _ _ he;have hee:Agr σ'.nv e1 e':=(agr_put e1 σ'.nv 0 0 false _).trans (he.mono (Nat.le_succ _));refine⟨bump_holds (hW' e' hee),.inr ⟨k',H-L,by rw[hL],?_,by rw[hL];exact(each' e' hee).2.2.sub q2 q1⟩⟩;obtain⟨a1,a2⟩:=q5 e' hee;rw[lv_sub,a1,a2];omega
theorem sl_nil (hW:W X e σ g) {k:Nat} {x:A} {lo hi:Option A} {n h l:Lin} {s s':Scr} (hx:gcel g.tm x=some (.v .nil)) (hn:∀e',Agr σ.nv e e'→lv e'.ρ n=0) (hb:abnds lo hi n σ s=some (h,l,s')):
 grd X.P (.sl k x lo hi) g.tm g.hp=some (.one (.v .nil),g.hp)∧∀e',Agr σ.nv e e'→lv e'.ρ (lsub h l)=0:=by
 obtain⟨H,L,q1,q2,q3,q4,q5⟩:=abnds_ok hW (m:=0) hn hb;refine⟨by simp only[grd,hx,q3,q4],fun e' he=>?_⟩;obtain⟨a1,a2⟩:=q5 e' he;rw[lv_sub,a1,a2];omega
theorem bytes_each {t:Nat} {ty:STy} (hT:X.T t=some ty) (hu:u8all ty=true) {pv:List Int}:∀{m:Nat} {us:List U},CfL X.T t pv 1 m us→∃bs,each gbyte (us.map .v)=some bs∧bs.length=m∧∀b∈bs,b<256
 |0,us,h=>by
  have:us=[]:=List.eq_nil_of_length_eq_zero (by have:=h.2.1;omega);subst this;exact⟨[],rfl,rfl,fun b hb=>by cases hb⟩
 |m+1,us,h=>by
  cases us with
  |nil=>have:=h.2.1;simp at this
  |cons u us=>
   have h1:=h.2.2 0 (by omega);have hsub:=h.sub (a:=1) (b:=m+1) (by omega) (by omega);have he:((u::us).drop (1*1)).take ((m+1-1)*1)=us:=by
    have hl:=h.2.1;rw[List.length_cons,Nat.mul_one]at hl;have:us.length=m:=by omega
    rw[Nat.mul_one,Nat.mul_one,List.drop_one,List.tail_cons,Nat.add_sub_cancel,←this,List.take_length]
   rw[he,Nat.add_sub_cancel]at hsub;obtain⟨bs,k1,k2,k3⟩:=bytes_each hT hu hsub;rw[Nat.zero_mul,List.drop_zero]at h1;have h1:CfE X.T t pv [u]:=h1
   cases h1 with
   |mk _ _ _ ty' ms ht hcs hcons=>
    rw[hT]at ht;cases ht;unfold u8all at hu
    split at hu
    case h_2=>cases hu
    rename_i hcs1;rw[brec']at hu
    split at hu
    case isFalse=>cases hu
    rename_i hlo;rw[hcs1]at hcs
    cases hcs with
    |cons _ _ _ _ _ n0 _ hc1 ht1=>
     cases ht1
     cases hc1
     have get:∀z:Lin,any (fun x:Lin=>lz (lsub x z)) ty.cons=true→0≤lv (sval [n0] pv) z:=by
      intro z hz;have:∃x∈ty.cons,lz (lsub x z)=true:=by
       clear hlo hu hcs1 k1 k2 k3;generalize ty.cons=cl at hz
       induction cl with
       |nil=>cases hz
       |cons y cl ih=>
        have hz:(Bool.rec (any (fun x:Lin=>lz (lsub x z)) cl) true (lz (lsub y z)):Bool)=true:=hz;rw[brec']at hz
        split at hz
        ·rename_i hy;exact⟨y,List.mem_cons_self,hy⟩
        ·obtain⟨x,hx,hxx⟩:=ih hz;exact⟨x,List.mem_cons_of_mem _ hx,hxx⟩
      obtain⟨x,hx,hxx⟩:=this;have h5:=hcons x hx;have h6:=lz_ok (sval [n0] pv) hxx;rw[lv_sub]at h6;omega
     have g1:=get _ hlo;have g2:=get _ hu;rw[lv_V]at g1;rw[lv_sub,lv_K,lv_V]at g2;have hs:sval [n0] pv 0=n0:=rfl;rw[hs]at g1 g2;obtain⟨b,rfl⟩:=int_nat g1;have hb:b<256:=by omega
     refine⟨b::bs,?_,by simp[k2],fun c hc=>?_⟩
     ·rw[List.map_cons,each_cons,k1]
      have:gbyte (.v (.int .u8 (b:Int)))=some b:=by
       show(Bool.rec none (some b) (Nat.ble b 255):Option Nat)=some b;have:Nat.ble b 255=true:=by rw[ble_iff];omega
       rw[this]
      rw[this]
     ·simp only[List.mem_cons]at hc
      rcases hc with rfl|hc
      ·exact hb
      ·exact k3 c hc
theorem ard2_ok (hW:W X e σ g) {i:I} {l:List (AD×AS)} {s s':Scr} (h:ard2 X i σ s=some (l,s')):OpsR X e σ g i l:=by
 cases i with
 |sl k x lo hi=>
  simp only[ard2]at h
  split at h
  ·rename_i hx
   split at h
   case h_2=>cases h
   rename_i hh ll s1 hb;obtain⟨y,q1,q2⟩:=cels_all hW hx;have:y=.v .nil:=q2 e (.refl _ _);subst this;obtain⟨r1,_⟩:=sl_nil hW q1 (k:=k) (fun e' he=>lv_K _ _) hb;exact opsR_d1 (.refl _) hW h r1 q2
  ·rename_i t ps n nm hx
   obtain⟨y,q1,q2⟩:=cels_all hW hx;rcases q2 e (.refl _ _)with⟨rfl,_⟩|⟨k0,m,rfl,_,_⟩
   ·have hn:∀e',Agr σ.nv e e'→lv e'.ρ n=0:=fun e' he=>by
     rcases q2 e' he with⟨_,h1⟩|⟨_,_,h1,_⟩
     ·exact h1
     ·cases h1
    unfold acut at h;rw[brec']at h
    split at h
    case isFalse=>cases h
    split at h
    case h_2=>cases h
    rename_i hh ll s1 hb
    cases h
    obtain⟨r1,r2⟩:=sl_nil hW q1 (k:=k) hn hb;refine⟨_,_,r1,_,List.mem_cons_self,Nat.le_succ _,rfl,e,.refl _ _,fun e' he=>?_⟩;have hee:Agr σ.nv e e':=Agr.mono (Nat.le_succ σ.nv) he;exact⟨bump_holds (hW e' hee),.inl ⟨rfl,r2 e' hee⟩⟩
   ·obtain⟨d',r1,r2⟩:=acut_ok (e:=e) (σ:=σ) (σ':=σ) (g:=g) (hp':=g.hp) (e1:=e) (Nat.le_refl _) rfl (.refl _ _) hW h q2
    exact⟨d',g.hp,by simp only[grd,q1,r1],r2⟩
  ·rename_i nm k0 n hx
   split at h
   case h_2=>cases h
   rename_i t ps n2 nm2 σ' s1 hfr;obtain⟨y,q1,q2⟩:=cels_all hW hx;obtain⟨hp',u,f1,f2,f3,e1,f4,f5⟩:=afr_ok (n:=6) hW hfr q2;have hW':W X e1 σ' ⟨g.tm,hp'⟩:=fun e' he=>(f5 e' he).1
   rcases own_or (q2 e (.refl _ _))with rfl|⟨i,m0,rfl⟩
   ·
    have hfz:some (g.hp,U.nil)=some (hp',u):=f1
    cases hfz
    have hn:∀e',Agr σ'.nv e1 e'→lv e'.ρ n2=0:=fun e' he=>by
     rcases(f5 e' he).2 with⟨_,h1⟩|⟨_,_,h1,_⟩
     ·exact h1
     ·cases h1
    unfold acut at h;rw[brec']at h
    split at h
    case isFalse=>cases h
    split at h
    case h_2=>cases h
    rename_i hh ll s2 hb
    cases h
    obtain⟨r1,r2⟩:=sl_nil hW' (g:=⟨g.tm,g.hp⟩) q1 (k:=k) hn hb;refine⟨_,_,r1,_,List.mem_cons_self,by show σ.nv≤σ'.nv+1;omega,f3,e1,f4,fun e' he=>?_⟩;have hee:Agr σ'.nv e1 e':=Agr.mono (Nat.le_succ σ'.nv) he;exact⟨bump_holds (hW' e' hee),.inl ⟨rfl,r2 e' hee⟩⟩
   ·have:∃k' m us,u=.fz k' m us:=by
     rcases(f5 e1 (.refl _ _)).2 with⟨h1,_⟩|⟨k',m,h1,_⟩
     ·
      exfalso;injection h1 with h1
      subst h1;have f1:(match nth g.hp i with
       |some (.ob e fr cs)=>match frs (frz 7) cs g.hp with
        |some (hp',us)=>match nth hp' i with
         |some (.ob e' fr' _)=>(Bool.rec none (some (setO hp' i (.ob e' true (mapsV us)),U.fz k0 m0 us)) (Bool.rec false (Nat.beq e e') (Nat.beq (V.len us) (m0*k0)):Bool):Option (List GO×U))
         |_=>none
        |none=>none
       |_=>none)=some (hp',U.nil):=f1
      split at f1
      case h_2=>cases f1
      split at f1
      case h_2=>cases f1
      split at f1
      case h_2=>cases f1
      rw[brec']at f1
      split at f1
      ·cases f1
      ·cases f1
     ·injection h1 with h1;exact⟨k',m,_,h1⟩
    obtain⟨k',m,us,rfl⟩:=this;obtain⟨d',r1,r2⟩:=acut_ok (e:=e) (σ:=σ) (σ':=σ') (g:=g) (hp':=hp') (e1:=e1) f2 f3 f4 hW' h fun e' he=>(f5 e' he).2
    exact⟨d',hp',by simp only[grd,q1,f1,r1],r2⟩
  ·cases h
 |ap e0 k b x y=>
  simp only[ard2]at h
  split at h
  case h_2=>cases h
  rename_i x1 y1 hx hy
  split at h
  case h_2=>cases h
  rename_i yc s1 hyc;obtain⟨x0,q1,q2⟩:=cels_all hW hx;obtain⟨y0,q3,q4⟩:=cels_all hW hy;obtain⟨kk,m,gs,r1,r2,_⟩:=aY_ok hW hyc q4;obtain⟨d',hp',t1,t2⟩:=agrow_ok hW h q2 r2;have hb:Nat.beq (len gs) (m*k)=true:=by rw[len_eq,beq_iff];exact r2.1
  exact⟨d',hp',by simp only[grd,q1,q3,r1,hb,t1],t2⟩
 |aps e0 b x y=>
  simp only[ard2]at h
  split at h
  case h_2=>cases h
  rename_i x1 n t hx hy ht
  split at h
  case h_2=>cases h
  rename_i ty hty;rw[brec']at h
  split at h
  case isFalse=>cases h
  rename_i hu;obtain⟨x0,q1,q2⟩:=cels_all hW hx;obtain⟨l1,k0,k1,k2,k3⟩:=strs_all hW hy;have hyok:YOk X e σ 1 (.ty t [] n) l1.length ((l1.map fun b:Nat=>U.int .u8 (b:Int)).map .v):=
   ⟨by simp,_,rfl,fun e' he=>⟨(k3 e' he).symm,u8s_ok hty hu k2⟩⟩
  obtain⟨d',hp',t1,t2⟩:=agrow_ok hW h q2 hyok;refine⟨d',hp',?_,t2⟩;simp only[grd,q1,k1,len_eq,maps_eq];rw[List.map_map]at t1;exact t1
 |apz e0 k b zs x y=>
  simp only[ard2]at h
  split at h
  case h_2=>cases h
  rename_i x1 kd n t hx hy ht
  split at h
  case h_2=>cases h
  rename_i gs ty hgs hty;rw[brec']at h
  split at h
  case isFalse=>cases h
  rename_i hb;rw[brec']at hb
  split at hb
  case isFalse=>cases hb
  rename_i hp;have hk:=kEq_ok hb
  split at h
  case h_2=>cases h
  rename_i s1 hs1
  split at h
  case h_2=>cases h
  rename_i s2 hs2;obtain⟨x0,q1,q2⟩:=cels_all hW hx;obtain⟨jn,q3,q4⟩:=ints_all hW hy;have n1:=needs_ok hW.holds.fa hs2 n (by simp);have n2:=needs_ok hW.holds.fa hs2 (roomy b n) (by simp);unfold roomy at n2;rw[lv_sub,lv_K,lv_sc,q4 e (.refl _ _)]at n2;rw[q4 e (.refl _ _)]at n1;obtain⟨m,rfl⟩:=int_nat n1;obtain⟨gs',k1,k2⟩:=consts_all (X:=X) hgs e;obtain⟨us,rfl⟩:=pures hp (k2 e rfl);have hrep:∀m,rep m (us.map G.v)=(rep m us).map G.v:=by
   intro m
   induction m with
   |zero=>rfl
   |succ n ih=>rw[rep_succ,rep_succ,List.map_append,ih]
  have hyok:YOk X e σ k (.ty t (maps lK ty.dps) n) m ((rep m us).map .v):=by
   have each':∀e',Agr σ.nv e e'→lv e'.ρ n=m∧CfL X.T t ((maps lK ty.dps).map (lv e'.ρ)) k m (rep m us):=fun e' he=>⟨q4 e' he,.rep hk (acf_ok (hW e' he).fa hs1 (k2 e' rfl)) m⟩
   exact⟨by rw[List.length_map];exact(each' e (.refl _ _)).2.2.1,_,rfl,each'⟩
  obtain⟨d',hp',t1,t2⟩:=agrow_ok hW h q2 hyok;refine⟨d',hp',?_,t2⟩;have hmb:Nat.ble (m*b) room=true:=by
   rw[ble_iff,Nat.mul_comm];have n2:0≤(room:Int)-(b:Int)*(m:Int):=n2;have:((b*m:Nat):Int)≤room:=by rw[Int.natCast_mul];omega
   omega
  simp only[grd,q1,q3,k1];show(Bool.rec none (ggrow g.hp e0 k b x0 m (rep m (us.map G.v))) (Nat.ble (m*b) room):Option (GD×List GO))=_;rw[hmb,hrep];exact t1
 |b2s x=>
  simp only[ard2]at h
  split at h
  case h_2=>cases h
  rename_i c hx;obtain⟨x0,q1,q2⟩:=cels_all hW hx
  split at h
  ·rename_i s1 hyc
   obtain⟨kk,m,gs,r1,⟨r2,rfl,r3⟩,r4⟩:=aY_ok hW hyc q2;have hk1:kk=1:=by rcases r4 with h|h<;>exact h
   subst hk1;have:gs=[]:=List.eq_nil_of_length_eq_zero (by omega);subst this;refine opsR_d1 (d':=.one (.v (.str []))) (.refl _) hW h (by simp only[grd,q1,r1];rfl) fun e' he=>⟨[],rfl,by rw[lv_K];rfl,fun b hb=>by cases hb⟩
  ·rename_i t ps n s1 hyc
   split at h
   case h_2=>cases h
   rename_i ty hty;rw[brec']at h
   split at h
   case isFalse=>cases h
   rename_i hu;obtain⟨kk,m,gs,r1,⟨r2,us,rfl,r3⟩,r4⟩:=aY_ok hW hyc q2;have hk1:kk=1:=by rcases r4 with h|h<;>exact h
   subst hk1;obtain⟨bs,b1,b2,b3⟩:=bytes_each hty hu (r3 e (.refl _ _)).2;refine opsR_d1 (d':=.one (.v (.str bs))) (.refl _) hW h (by simp only[grd,q1,r1,b1]) fun e' he=>⟨bs,rfl,by rw[(r3 e' he).1,b2],b3⟩
  ·cases h
 |_=>cases h
end
end Go.Proofs.YtiahijhpjloijaaGreat.V

namespace Go.Proofs.YtiahijhpjloijaaGreat.V
open Go
structure Mp where
 f:Nat→Option Lin
 hl:Nat→Option Nat
 ho:Nat→Option (Option Nat)
noncomputable def ckL (fa:Tr Lin) (mp:Mp) (p a:Lin) (s:Scr):Option Scr:=match sbF mp.f p with|some q=>same fa q a s|none=>none
noncomputable def eqo (a:Option Nat) (b:Nat):Bool:=match a with|some a=>Nat.beq a b|none=>false
noncomputable def eqoo (a:Option (Option Nat)) (b:Nat):Bool:=match a with|some (some a)=>Nat.beq a b|_=>false
noncomputable def isoff (a:Option (Option Nat)):Bool:=match a with|some none=>true|_=>false
noncomputable def ckC (X:Cx) (fa:Tr Lin) (mp:Mp) (p a:AC) (s:Scr):Option Scr:=
 match p,a with
 | .int k x,.int j y=>Bool.rec none (ckL fa mp x y s) (Nat.beq (kn k) (kn j))
 | .bool .tt,.bool b=>aTrue fa b s
 | .bool .ff,.bool b=>aTrue fa (beNot b) s
 | .bool (.ge x),.bool .tt=>match sbF mp.f x with|some q=>need fa q s|none=>none
 | .bool (.ge x),.bool .ff=>match sbF mp.f x with|some q=>need fa (lneg1 q) s|none=>none
 | .bool (.ge x),.bool (.ge y)=>ckL fa mp x y s
 | .str x,.str y=>ckL fa mp x y s
 | .un,.un=>some s
 | .np,.np=>some s
 | .nil,.nil=>some s
 | .sl t ps n nm,.sl t' ps' n' nm'=>Bool.rec none (match each (sbF mp.f) ps with
   |some qs=>match awk X.T fa t ps' qs s with|some s=>ckL fa mp n n' s|none=>none
   |none=>none) (Bool.rec false (eqo (mp.hl nm) nm') (Nat.beq t t'))
 | .sl t ps n nm,.nil=>ckL fa mp n (lK 0) s
 | .own nm k n,.own nm' k' n'=>Bool.rec none (ckL fa mp n n' s) (Bool.rec false (eqoo (mp.ho nm) nm') (Nat.beq k k'))
 | .own nm k n,.nil=>Bool.rec none (ckL fa mp n (lK 0) s) (isoff (mp.ho nm))
 | .loc nm off,.loc nm' off'=>Bool.rec none (some s) (Bool.rec false (eqoo (mp.ho nm) nm') (Nat.beq off off'))
 |_,_=>none
noncomputable def ckCs (X:Cx) (fa:Tr Lin) (mp:Mp) (p:List AC):List AC→Scr→Option Scr:=
 List.rec (fun a s=>List.rec (some s) (fun _ _ _=>none) a) (fun c _ ih a s=>List.rec none (fun b t _=>match ckC X fa mp c b s with|some s=>ih t s|none=>none) a) p
noncomputable def ckD (X:Cx) (fa:Tr Lin) (mp:Mp) (p a:AD) (s:Scr):Option Scr:=
 match p,a with
 | .one c,.one d=>ckC X fa mp c d s
 | .ag l,.ag m=>ckCs X fa mp l m s
 |_,_=>none
noncomputable def ckDs (X:Cx) (fa:Tr Lin) (mp:Mp) (p:List AD):List AD→Scr→Option Scr:=
 List.rec (fun a s=>List.rec (some s) (fun _ _ _=>none) a) (fun c _ ih a s=>List.rec none (fun b t _=>match ckD X fa mp c b s with|some s=>ih t s|none=>none) a) p
noncomputable def ckO (X:Cx) (fa:Tr Lin) (mp:Mp) (p a:AO) (s:Scr):Option Scr:=
 match p,a with
 | .X e cs,.X e' cs'=>Bool.rec none (ckCs X fa mp cs cs' s) (Nat.beq e e')
 | .M e t ps n,.M e' t' ps' n'=>Bool.rec none (match each (sbF mp.f) ps with
   |some qs=>match awk X.T fa t ps' qs s with|some s=>ckL fa mp n n' s|none=>none
   |none=>none) (Bool.rec false (Nat.beq e e') (Nat.beq t t'))
 | .M e t ps n,.X e' cs'=>Bool.rec none (match each (sbF mp.f) ps,sbF mp.f n,kOf X.T t with
   |some qs,some q,some k=>match lnat q with
    |some m=>acfL X.T fa t qs k m cs' s
    |none=>none
   |_,_,_=>none) (Bool.rec false (Nat.beq e e') (all isP cs'))
 | .F e t ps n nm,.F e' t' ps' n' nm'=>Bool.rec none (match each (sbF mp.f) ps with
   |some qs=>match awk X.T fa t ps' qs s with|some s=>ckL fa mp n n' s|none=>none
   |none=>none) (Bool.rec false (Bool.rec false (eqo (mp.hl nm) nm') (Nat.beq e e')) (Nat.beq t t'))
 | .dead,.dead=>some s
 |_,_=>none
noncomputable def ckOs (X:Cx) (fa:Tr Lin) (mp:Mp) (ob:List (Nat×AO)) (p:List (Nat×AO)):Scr→Option Scr:=
 List.rec (fun s=>some s) (fun z _ ih s=>match mp.ho z.1 with
  |some (some m)=>match findO m ob with
   |some a=>match ckO X fa mp z.2 a s with|some s=>ih s|none=>none
   |none=>none
  |some none=>ih s
  |none=>none) p
noncomputable def apartN (mp:Mp) (p:List (Nat×AO)):Bool:=
 List.rec true (fun z t ih=>Bool.rec false ih (match mp.ho z.1 with
  |some (some m)=>all (fun y:Nat×AO=>Bool.rec (not (eqoo (mp.ho y.1) m)) true (Nat.beq y.1 z.1)) t
  |_=>true)) p
noncomputable def ckF (fa:Tr Lin) (mp:Mp) (l:List Lin) (s:Scr):Option Scr:=match each (sbF mp.f) l with|some qs=>needs fa qs s|none=>none
structure MpOk (e eP:AEnv) (mp:Mp):Prop where
 f:∀v q,mp.f v=some q→lv e.ρ q=eP.ρ v
 hl:∀nm m,mp.hl nm=some m→eP.L nm=e.L m
 ho:∀nm m,mp.ho nm=some (some m)→eP.on nm=e.on m∧eP.ν nm=e.ν m
 off:∀nm,mp.ho nm=some none→eP.on nm=false
section
variable{X:Cx} {e eP:AEnv} {mp:Mp} {fa:Tr Lin}
theorem sb_lin (h:MpOk e eP mp) {p q:Lin} (hq:sbF mp.f p=some q):lv e.ρ q=lv eP.ρ p:=sbF_ok (c:=p.1) (l:=p.2) hq fun z hz y hy=>h.f _ _ hy
theorem sb_lins (h:MpOk e eP mp) {ps qs:List Lin} (hq:each (sbF mp.f) ps=some qs):qs.map (lv e.ρ)=ps.map (lv eP.ρ):=by
 have:=each_spec _ _ _ hq;refine List.ext_getElem? fun i=>?_
 rw[List.getElem?_map,List.getElem?_map]
 cases hp:ps[i]? with
 |none=>
  have:qs[i]?=none:=by
   rw[List.getElem?_eq_none_iff]at hp⊢;rw[←this.len];exact hp
  rw[this];rfl
 |some p=>
  obtain⟨q,hq,hpq⟩:=this.get hp;rw[hq];show some (lv e.ρ q)=some (lv eP.ρ p);rw[sb_lin h hpq]
theorem ckL_ok (hF:Facts e.ρ fa) (h:MpOk e eP mp) {p a:Lin} {s s':Scr} (hc:ckL fa mp p a s=some s'):lv eP.ρ p=lv e.ρ a:=by
 unfold ckL at hc
 split at hc
 ·rename_i q hq
  have:=same_ok hF hc;rw[←sb_lin h hq,this]
 ·cases hc
theorem eqo_ok {a:Option Nat} {b:Nat} (h:eqo a b=true):a=some b:=by
 unfold eqo at h
 split at h
 ·rw[beq_iff]at h;rw[h]
 ·cases h
theorem eqoo_ok {a:Option (Option Nat)} {b:Nat} (h:eqoo a b=true):a=some (some b):=by
 unfold eqoo at h
 split at h
 ·rw[beq_iff]at h;rw[h]
 ·cases h
theorem isoff_ok {a:Option (Option Nat)} (h:isoff a=true):a=some none:=by
 unfold isoff at h
 split at h
 ·rfl
 ·cases h
theorem and2 {a b:Bool} (h:(Bool.rec false b a:Bool)=true):a=true∧b=true:=by cases a<;>cases b<;>simp_all
theorem ckC_ok (hF:Facts e.ρ fa) (h:MpOk e eP mp) {p a:AC} {s s':Scr} (hc:ckC X fa mp p a s=some s') {g:G} (hg:gaC X e a g):gaC X eP p g:=by
 unfold ckC at hc
 split at hc
 ·rename_i k x j y
  rw[brec']at hc
  split at hc
  case isFalse=>cases hc
  rename_i hk;have:=kn_inj hk;subst this;have hg:g=.v (.int k (lv e.ρ y)):=hg;rw[hg];show G.v (.int k (lv e.ρ y))=.v (.int k (lv eP.ρ x));rw[ckL_ok hF h hc]
 ·rename_i b
  have hg:g=.v (.bool (bv e.ρ b)):=hg;rw[hg,aTrue_ok hF hc];rfl
 ·rename_i b
  have hg:g=.v (.bool (bv e.ρ b)):=hg;have:=aTrue_ok hF hc;rw[bv_not]at this;have:bv e.ρ b=false:=by simpa using this
  rw[hg,this];rfl
 ·rename_i x
  split at hc
  case h_2=>cases hc
  rename_i q hq;have:=need_ok hF hc;rw[sb_lin h hq]at this;have hg:g=.v (.bool true):=hg;rw[hg];show G.v (.bool true)=.v (.bool (decide (0≤lv eP.ρ x)));rw[decide_eq_true this]
 ·rename_i x
  split at hc
  case h_2=>cases hc
  rename_i q hq;have:=need_ok hF hc;rw[lv_neg1,sb_lin h hq]at this;have hg:g=.v (.bool false):=hg;rw[hg];show G.v (.bool false)=.v (.bool (decide (0≤lv eP.ρ x)));rw[decide_eq_false (by omega)]
 ·rename_i x y
  have hg:g=.v (.bool (decide (0≤lv e.ρ y))):=hg;rw[hg];show G.v (.bool (decide (0≤lv e.ρ y)))=.v (.bool (decide (0≤lv eP.ρ x)));rw[ckL_ok hF h hc]
 ·rename_i x y
  obtain⟨l,rfl,h1,h2⟩:=hg;exact⟨l,rfl,by rw[h1,ckL_ok hF h hc],h2⟩
 ·exact hg
 ·exact hg
 ·exact hg
 ·rename_i t ps n nm t' ps' n' nm'
  rw[brec']at hc
  split at hc
  case isFalse=>cases hc
  rename_i hb;obtain⟨ht,hn⟩:=and2 hb;rw[beq_iff]at ht;subst ht;have hn:=eqo_ok hn
  split at hc
  case h_2=>cases hc
  rename_i qs hqs
  split at hc
  case h_2=>cases hc
  rename_i s1 hs1;have hnn:=ckL_ok hF h hc;have hL:=h.hl _ _ hn;rcases hg with⟨h1,h2⟩|⟨k,m,h1,h2,h3⟩
  ·exact .inl ⟨h1,by rw[hnn,h2]⟩
  ·have h4:=awkL_ok hs1 hF h3
   rw[sb_lins h hqs]at h4;exact .inr ⟨k,m,by rw[hL];exact h1,by rw[hnn,h2],by rw[hL];exact h4⟩
 ·rename_i t ps n nm
  have hnn:=ckL_ok hF h hc;rw[lv_K]at hnn;exact .inl ⟨hg,hnn⟩
 ·rename_i nm k n nm' k' n'
  rw[brec']at hc
  split at hc
  case isFalse=>cases hc
  rename_i hb;obtain⟨hk,hn⟩:=and2 hb;rw[beq_iff]at hk;subst hk;obtain⟨h1,h2⟩:=h.ho _ _ (eqoo_ok hn);have hnn:=ckL_ok hF h hc;rcases hg with⟨g1,m,g2,g3⟩|⟨g1,g2,g3⟩
  ·exact .inl ⟨by rw[h1];exact g1,m,by rw[hnn];exact g2,by rw[h2];exact g3⟩
  ·exact .inr ⟨by rw[h1];exact g1,g2,by rw[hnn];exact g3⟩
 ·rename_i nm k n
  rw[brec']at hc
  split at hc
  case isFalse=>cases hc
  rename_i hb;have hnn:=ckL_ok hF h hc;rw[lv_K]at hnn;exact .inr ⟨h.off _ (isoff_ok hb),hg,hnn⟩
 ·rename_i nm off nm' off'
  rw[brec']at hc
  split at hc
  case isFalse=>cases hc
  rename_i hb;obtain⟨hk,hn⟩:=and2 hb;rw[beq_iff]at hk;subst hk;obtain⟨h1,h2⟩:=h.ho _ _ (eqoo_ok hn);obtain⟨g1,g2⟩:=hg;exact⟨by rw[h1];exact g1,by rw[h2];exact g2⟩
 ·cases hc
theorem ckCs_ok (hF:Facts e.ρ fa) (h:MpOk e eP mp):∀{p a:List AC} {s s':Scr},ckCs X fa mp p a s=some s'→∀{gs:List G},Al (gaC X e) a gs→Al (gaC X eP) p gs
 |[],[],s,s',hc,gs,hg=>by cases hg;exact .nil
 |[],_::_,s,s',hc,gs,hg=>by cases hc
 |_::_,[],s,s',hc,gs,hg=>by cases hc
 |c::p,b::a,s,s',hc,gs,hg=>by
  have hc:(match ckC X fa mp c b s with|some s=>ckCs X fa mp p a s|none=>none)=some s':=hc
  split at hc
  ·rename_i s1 hs1
   cases hg with
   |cons h1 h2=>exact .cons (ckC_ok hF h hs1 h1) (ckCs_ok hF h hc h2)
  ·cases hc
theorem ckD_ok (hF:Facts e.ρ fa) (h:MpOk e eP mp) {p a:AD} {s s':Scr} (hc:ckD X fa mp p a s=some s') {d:GD} (hg:gaD X e a d):gaD X eP p d:=by
 unfold ckD at hc
 split at hc
 ·cases d with
  |one x=>exact ckC_ok hF h hc hg
  |ag _=>exact hg.elim
  |tup _=>exact hg.elim
 ·cases d with
  |ag x=>exact ckCs_ok hF h hc hg
  |one _=>exact hg.elim
  |tup _=>exact hg.elim
 ·cases hc
theorem ckDs_ok (hF:Facts e.ρ fa) (h:MpOk e eP mp):∀{p a:List AD} {s s':Scr},ckDs X fa mp p a s=some s'→∀{gs:List GD},Al (gaD X e) a gs→Al (gaD X eP) p gs
 |[],[],s,s',hc,gs,hg=>by cases hg;exact .nil
 |[],_::_,s,s',hc,gs,hg=>by cases hc
 |_::_,[],s,s',hc,gs,hg=>by cases hc
 |c::p,b::a,s,s',hc,gs,hg=>by
  have hc:(match ckD X fa mp c b s with|some s=>ckDs X fa mp p a s|none=>none)=some s':=hc
  split at hc
  ·rename_i s1 hs1
   cases hg with
   |cons h1 h2=>exact .cons (ckD_ok hF h hs1 h1) (ckDs_ok hF h hc h2)
  ·cases hc
theorem ckO_ok (hF:Facts e.ρ fa) (h:MpOk e eP mp) {p a:AO} {s s':Scr} (hc:ckO X fa mp p a s=some s') {o:GO} (hg:gaO X e a o):gaO X eP p o:=by
 unfold ckO at hc
 split at hc
 ·rename_i e0 cs e1 cs'
  rw[brec']at hc
  split at hc
  case isFalse=>cases hc
  rename_i hb;rw[beq_iff]at hb;subst hb;obtain⟨gs,h1,h2⟩:=hg;exact⟨gs,h1,ckCs_ok hF h hc h2⟩
 ·rename_i e0 t ps n e1 t' ps' n'
  rw[brec']at hc
  split at hc
  case isFalse=>cases hc
  rename_i hb;obtain⟨ht,he⟩:=and2 hb;rw[beq_iff]at ht he;subst ht;subst he
  split at hc
  case h_2=>cases hc
  rename_i qs hqs
  split at hc
  case h_2=>cases hc
  rename_i s1 hs1;have hnn:=ckL_ok hF h hc;obtain⟨us,k,m,h1,h2,h3⟩:=hg;have h4:=awkL_ok hs1 hF h3;rw[sb_lins h hqs]at h4;exact⟨us,k,m,h1,by rw[hnn,h2],h4⟩
 ·rename_i e0 t ps n e1 cs'
  rw[brec']at hc
  split at hc
  case isFalse=>cases hc
  rename_i hb;obtain⟨hp,he⟩:=and2 hb;rw[beq_iff]at he;subst he
  split at hc
  case h_2=>cases hc
  rename_i qs q k hqs hq hk
  split at hc
  case h_2=>cases hc
  rename_i m hm;obtain⟨gs,rfl,h2⟩:=hg;obtain⟨us,rfl⟩:=pures hp h2;have h4:=acfL_ok hF hk hc h2;rw[sb_lins h hqs]at h4;refine⟨us,k,m,rfl,?_,h4⟩;rw[←sb_lin h hq,lnat_ok hm]
 ·rename_i e0 t ps n nm e1 t' ps' n' nm'
  rw[brec']at hc
  split at hc
  case isFalse=>cases hc
  rename_i hb;obtain⟨ht,hb⟩:=and2 hb;obtain⟨he,hn⟩:=and2 hb;rw[beq_iff]at ht he;subst ht;subst he;have hL:=h.hl _ _ (eqo_ok hn)
  split at hc
  case h_2=>cases hc
  rename_i qs hqs
  split at hc
  case h_2=>cases hc
  rename_i s1 hs1;have hnn:=ckL_ok hF h hc;obtain⟨k,m,h1,h2,h3⟩:=hg;have h4:=awkL_ok hs1 hF h3;rw[sb_lins h hqs]at h4;exact⟨k,m,by rw[hL];exact h1,by rw[hnn,h2],by rw[hL];exact h4⟩
 ·exact hg
 ·cases hc
theorem findO_in {α:Type} {n:Nat} {a:α}:∀{l:List (Nat×α)},findO n l=some a→(n,a)∈l
 |[],h=>by cases h
 |z::l,h=>by
  obtain⟨m,o⟩:=z;rw[findO_cons]at h
  split at h
  ·rename_i he;subst he;cases h;exact List.mem_cons_self
  ·exact List.mem_cons_of_mem _ (findO_in h)
theorem ckOs_ok (hF:Facts e.ρ fa) (h:MpOk e eP mp) {ob:List (Nat×AO)} {hp:List GO} (hob:∀nm ao,findO nm ob=some ao→e.on nm=true→∃o,hp[e.ν nm]?=some o∧gaO X e ao o):
 ∀{p:List (Nat×AO)} {s s':Scr},ckOs X fa mp ob p s=some s'→∀z∈p,(∃x,mp.ho z.1=some x∧∀m,x=some m→findO m ob≠none)∧(eP.on z.1=true→∃o,hp[eP.ν z.1]?=some o∧gaO X eP z.2 o)
 |[],s,s',hc,z,hz=>by cases hz
 |y::p,s,s',hc,z,hz=>by
  have hc:(match mp.ho y.1 with
   |some (some m)=>match findO m ob with
    |some a=>match ckO X fa mp y.2 a s with|some s=>ckOs X fa mp ob p s|none=>none
    |none=>none
   |some none=>ckOs X fa mp ob p s
   |none=>none)=some s':=hc
  split at hc
  ·rename_i m hm
   split at hc
   case h_2=>cases hc
   rename_i a ha
   split at hc
   case h_2=>cases hc
   rename_i s1 hs1
   cases hz with
   |head=>
    refine⟨⟨_,hm,fun m' hm'=>by cases hm';rw[ha];exact Option.some_ne_none _⟩,fun hon=>?_⟩;obtain⟨h1,h2⟩:=h.ho _ _ hm;rw[h1]at hon;obtain⟨o,h3,h4⟩:=hob m a ha hon;exact⟨o,by rw[h2];exact h3,ckO_ok hF h hs1 h4⟩
   |tail _ hz=>exact ckOs_ok hF h hob hc z hz
  ·rename_i hm
   cases hz with
   |head=>
    refine⟨⟨_,hm,fun m' hm'=>by cases hm'⟩,fun hon=>?_⟩;rw[h.off _ hm]at hon;cases hon
   |tail _ hz=>exact ckOs_ok hF h hob hc z hz
  ·cases hc
theorem apartN_ok:∀{p:List (Nat×AO)},apartN mp p=true→∀y∈p,∀z∈p,∀m,mp.ho y.1=some (some m)→mp.ho z.1=some (some m)→y.1=z.1
 |[],h,y,hy,z,hz,m,hym,hzm=>by cases hy
 |x::p,h,y,hy,z,hz,m,hym,hzm=>by
  have h:(Bool.rec false (apartN mp p) (match mp.ho x.1 with
   |some (some m)=>all (fun y:Nat×AO=>Bool.rec (not (eqoo (mp.ho y.1) m)) true (Nat.beq y.1 x.1)) p
   |_=>true:Bool):Bool)=true:=h
  obtain⟨h1,h2⟩:=and2 h;have key:∀w∈p,mp.ho x.1=some (some m)→mp.ho w.1=some (some m)→w.1=x.1:=by
   intro w hw hxm hwm;rw[hxm]at h1;have:=all_true h1 w hw;rw[brec']at this
   split at this
   ·rename_i hb;exact(beq_iff _ _).1 hb
   ·rw[hwm]at this
    have:(not (Nat.beq m m))=true:=this;rw[Nat.beq_refl]at this;cases this
  cases hy with
  |head=>cases hz with
   |head=>rfl
   |tail _ hz=>exact(key z hz hym hzm).symm
  |tail _ hy=>cases hz with
   |head=>exact key y hy hzm hym
   |tail _ hz=>exact apartN_ok h2 y hy z hz m hym hzm
theorem ckF_ok (hF:Facts e.ρ fa) (h:MpOk e eP mp) {l:List Lin} {s s':Scr} (hc:ckF fa mp l s=some s'):∀x∈l,0≤lv eP.ρ x:=by
 unfold ckF at hc
 split at hc
 ·rename_i qs hqs
  have h1:=needs_ok hF hc;intro x hx;obtain⟨i,hi⟩:=List.getElem?_of_mem hx;obtain⟨q,hq,hxq⟩:=(each_spec _ _ _ hqs).get hi;rw[←sb_lin h hxq];exact h1 q (List.mem_of_getElem? hq)
 ·cases hc
end
noncomputable def tB (mp:Mp) (b:BE):Option BE:=
 match b with
 | .tt=>some .tt
 | .ff=>some .ff
 | .ge x=>match sbF mp.f x with|some q=>some (.ge q)|none=>none
 | .eq x=>match sbF mp.f x with|some q=>some (.eq q)|none=>none
 | .ne x=>match sbF mp.f x with|some q=>some (.ne q)|none=>none
noncomputable def tC (mp:Mp) (c:AC):Option AC:=
 match c with
 | .int k x=>match sbF mp.f x with|some q=>some (.int k q)|none=>none
 | .bool b=>match tB mp b with|some b=>some (.bool b)|none=>none
 | .str x=>match sbF mp.f x with|some q=>some (.str q)|none=>none
 | .un=>some .un
 | .np=>some .np
 | .nil=>some .nil
 | .sl t ps n nm=>match each (sbF mp.f) ps,sbF mp.f n,mp.hl nm with|some qs,some q,some m=>some (.sl t qs q m)|_,_,_=>none
 | .own nm k n=>match sbF mp.f n,mp.ho nm with
   |some q,some (some m)=>some (.own m k q)
   |some _,some none=>some .nil
   |_,_=>none
 |_=>none
noncomputable def tX (mp:Mp) (x:AX):Option AX:=
 match x with
 | .one c=>match tC mp c with|some c=>some (.one c)|none=>none
 | .ag l=>match each (tC mp) l with|some l=>some (.ag l)|none=>none
noncomputable def tD (mp:Mp) (d:AD):Option AD:=
 match d with
 | .one c=>match tC mp c with|some c=>some (.one c)|none=>none
 | .ag l=>match each (tC mp) l with|some l=>some (.ag l)|none=>none
 | .tup l=>match each (tX mp) l with|some l=>some (.tup l)|none=>none
 | .top=>some .top
noncomputable def tO (mp:Mp) (o:AO):Option AO:=
 match o with
 | .X e cs=>match each (tC mp) cs with|some cs=>some (.X e cs)|none=>none
 | .M e t ps n=>match each (sbF mp.f) ps,sbF mp.f n with|some qs,some q=>some (.M e t qs q)|_,_=>none
 | .F e t ps n nm=>match each (sbF mp.f) ps,sbF mp.f n,mp.hl nm with|some qs,some q,some m=>some (.F e t qs q m)|_,_,_=>none
 | .dead=>some .dead
structure TrOk (r:Nat→Nat) (e eC:AEnv) (mp:Mp):Prop where
 f:∀v q,mp.f v=some q→lv e.ρ q=eC.ρ v
 hl:∀nm m,mp.hl nm=some m→e.L m=eC.L nm
 ho:∀nm m,mp.ho nm=some (some m)→e.on m=eC.on nm∧(eC.on nm=true→e.ν m=r (eC.ν nm))
 off:∀nm,mp.ho nm=some none→eC.on nm=false
section
variable{X:Cx} {e eC:AEnv} {mp:Mp} {r:Nat→Nat}
theorem tr_lin (h:TrOk r e eC mp) {p q:Lin} (hq:sbF mp.f p=some q):lv e.ρ q=lv eC.ρ p:=sbF_ok (c:=p.1) (l:=p.2) hq fun z hz y hy=>h.f _ _ hy
theorem tr_lins (h:TrOk r e eC mp) {ps qs:List Lin} (hq:each (sbF mp.f) ps=some qs):qs.map (lv e.ρ)=ps.map (lv eC.ρ):=by
 have:=each_spec _ _ _ hq;refine List.ext_getElem? fun i=>?_
 rw[List.getElem?_map,List.getElem?_map]
 cases hp:ps[i]? with
 |none=>
  have:qs[i]?=none:=by
   rw[List.getElem?_eq_none_iff]at hp⊢;rw[←this.len];exact hp
  rw[this];rfl
 |some p=>
  obtain⟨q,hq,hpq⟩:=this.get hp;rw[hq];show some (lv e.ρ q)=some (lv eC.ρ p);rw[tr_lin h hpq]
theorem tB_ok (h:TrOk r e eC mp) {b b':BE} (hb:tB mp b=some b'):bv e.ρ b'=bv eC.ρ b:=by
 cases b<;>simp only[tB]at hb
 case tt=>cases hb;rfl
 case ff=>cases hb;rfl
 all_goals
  split at hb
  ·rename_i q hq
   cases hb
   simp only[bv,tr_lin h hq]
  ·cases hb
theorem tC_ok (h:TrOk r e eC mp) {c c':AC} (hc:tC mp c=some c') {g:G} (hg:gaC X eC c g):gaC X e c' (renG r g):=by
 cases c<;>simp only[tC]at hc
 case int k x=>
  split at hc
  ·rename_i q hq
   cases hc
   have hg:g=.v (.int k (lv eC.ρ x)):=hg;subst hg;show G.v (.int k (lv eC.ρ x))=.v (.int k (lv e.ρ q));rw[tr_lin h hq]
  ·cases hc
 case bool b=>
  split at hc
  ·rename_i b' hb
   cases hc
   have hg:g=.v (.bool (bv eC.ρ b)):=hg;subst hg;show G.v (.bool (bv eC.ρ b))=.v (.bool (bv e.ρ b'));rw[tB_ok h hb]
  ·cases hc
 case str x=>
  split at hc
  ·rename_i q hq
   cases hc
   obtain⟨l,rfl,h1,h2⟩:=hg;exact⟨l,rfl,by rw[h1,tr_lin h hq],h2⟩
  ·cases hc
 case un=>cases hc;have hg:g=.v .un:=hg;subst hg;rfl
 case np=>cases hc;have hg:g=.v .np:=hg;subst hg;rfl
 case nil=>cases hc;have hg:g=.v .nil:=hg;subst hg;rfl
 case sl t ps n nm=>
  split at hc
  ·rename_i qs q m hqs hq hm
   cases hc
   have hL:=h.hl _ _ hm;rcases hg with⟨rfl,h1⟩|⟨k,m',rfl,h1,h2⟩
   ·exact .inl ⟨rfl,by rw[tr_lin h hq,h1]⟩
   ·exact .inr ⟨k,m',by rw[hL];rfl,by rw[h1,tr_lin h hq],by rw[tr_lins h hqs,hL];exact h2⟩
  ·cases hc
 case own nm k n=>
  split at hc
  ·rename_i q m hq hm
   cases hc
   obtain⟨h1,h2⟩:=h.ho _ _ hm;rcases hg with⟨g1,m',g2,rfl⟩|⟨g1,rfl,g3⟩
   ·exact .inl ⟨by rw[h1];exact g1,m',by rw[tr_lin h hq];exact g2,by rw[h2 g1];rfl⟩
   ·exact .inr ⟨by rw[h1];exact g1,rfl,by rw[tr_lin h hq];exact g3⟩
  ·rename_i q hq hm
   cases hc
   rcases hg with⟨g1,m',g2,rfl⟩|⟨g1,rfl,g3⟩
   ·rw[h.off _ hm]at g1;cases g1
   ·rfl
  ·cases hc
 all_goals cases hc
theorem tCs_ok (h:TrOk r e eC mp):∀{l l':List AC},each (tC mp) l=some l'→∀{gs:List G},Al (gaC X eC) l gs→Al (gaC X e) l' (gs.map (renG r))
 |[],l',hc,gs,hg=>by cases hg;rw[each_nil]at hc;cases hc;exact .nil
 |c::l,l',hc,gs,hg=>by
  rw[each_cons]at hc
  split at hc
  case h_2=>cases hc
  rename_i c' hc'
  split at hc
  case h_2=>cases hc
  rename_i l2 hl2
  cases hc
  cases hg with
  |cons h1 h2=>exact .cons (tC_ok h hc' h1) (tCs_ok h hl2 h2)
theorem tXs_ok (h:TrOk r e eC mp):∀{l l':List AX},each (tX mp) l=some l'→∀{gs:List GX},Al (gaX X eC) l gs→Al (gaX X e) l' (gs.map (renGX r))
 |[],l',hc,gs,hg=>by cases hg;rw[each_nil]at hc;cases hc;exact .nil
 |c::l,l',hc,gs,hg=>by
  rw[each_cons]at hc
  split at hc
  case h_2=>cases hc
  rename_i c' hc'
  split at hc
  case h_2=>cases hc
  rename_i l2 hl2
  cases hc
  cases hg with
  |@cons _ y _ _ h1 h2=>
   refine .cons ?_ (tXs_ok h hl2 h2)
   cases c<;>simp only[tX]at hc'
   ·split at hc'
    case h_2=>cases hc'
    rename_i hc2
    cases hc'
    cases y with
    |ag _=>exact h1.elim
    |one y=>exact tC_ok h hc2 h1
   ·split at hc'
    case h_2=>cases hc'
    rename_i hc2
    cases hc'
    cases y with
    |one _=>exact h1.elim
    |ag y=>
     show Al (gaC X e) _ (V.maps (renG r) y);rw[maps_eq];exact tCs_ok h hc2 h1
theorem tD_ok (h:TrOk r e eC mp) {d d':AD} (hd:tD mp d=some d') {g:GD} (hg:gaD X eC d g):gaD X e d' (renGD r g):=by
 cases d<;>simp only[tD]at hd
 ·split at hd
  case h_2=>cases hd
  rename_i hc
  cases hd
  cases g with
  |ag _=>exact hg.elim
  |tup _=>exact hg.elim
  |one y=>exact tC_ok h hc hg
 ·split at hd
  case h_2=>cases hd
  rename_i hc
  cases hd
  cases g with
  |one _=>exact hg.elim
  |tup _=>exact hg.elim
  |ag y=>
   show Al (gaC X e) _ (V.maps (renG r) y);rw[maps_eq];exact tCs_ok h hc hg
 ·split at hd
  case h_2=>cases hd
  rename_i hc
  cases hd
  cases g with
  |one _=>exact hg.elim
  |ag _=>exact hg.elim
  |tup y=>
   show Al (gaX X e) _ (V.maps (renGX r) y);rw[maps_eq];exact tXs_ok h hc hg
 ·cases g<;>exact hg.elim
theorem ren_v (us:List U):V.maps (renG r) (us.map .v)=us.map .v:=by
 rw[maps_eq,List.map_map];rfl
theorem tO_ok (h:TrOk r e eC mp) {o o':AO} (ho:tO mp o=some o') {x:GO} (hx:gaO X eC o x):gaO X e o' (renGO r x):=by
 cases o<;>simp only[tO]at ho
 ·split at ho
  case h_2=>cases ho
  rename_i hc
  cases ho
  obtain⟨gs,rfl,h1⟩:=hx;exact⟨_,rfl,by rw[maps_eq];exact tCs_ok h hc h1⟩
 ·split at ho
  case h_2=>cases ho
  rename_i qs q hqs hq
  cases ho
  obtain⟨us,k,m,rfl,h1,h2⟩:=hx;exact⟨us,k,m,by show GO.ob _ _ (V.maps (renG r) _)=_;rw[ren_v],by rw[h1,tr_lin h hq],by rw[tr_lins h hqs];exact h2⟩
 ·split at ho
  case h_2=>cases ho
  rename_i qs q m' hqs hq hm
  cases ho
  obtain⟨k,m,rfl,h1,h2⟩:=hx;have hL:=h.hl _ _ hm;exact⟨k,m,by show GO.ob _ _ (V.maps (renG r) _)=_;rw[ren_v,hL],by rw[h1,tr_lin h hq],by rw[tr_lins h hqs,hL];exact h2⟩
 ·cases ho
  have hx:x=.dead:=hx;subst hx;rfl
end
end Go.Proofs.YtiahijhpjloijaaGreat.V

