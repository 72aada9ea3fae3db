/- Parts of the proof, put together: F22, F23, F24, F25, F26, F27. -/
import Derived.Test.YtiahijhpjloijaaGreatM4
set_option linter.unusedVariables false
set_option linter.unusedSimpArgs false
namespace Go.Proofs.YtiahijhpjloijaaGreat.V
open Go Go.RowKit
noncomputable def fitK (P:Program) (n:Nat):K→Code→Bool
 | .blk _ l,.region _ ops false=>fitBl P n ops l ops.toList
 | .dblk _ l chk,.region _ ops true=>fitDr P n ops l chk
 | .seq a b,.seq c d=>fitK P n a c&&fitK P n b d
 | .cond c a b,.cond o d e=>fitA c o&&(fitK P n a d&&fitK P n b e)
 | .block i a,.block j c=>Nat.beq i j&&fitK P n a c
 | .loop a,.loop c=>fitK P n a c
 | .exit i,.exit j=>Nat.beq i j
 | .ret,.ret=>true
 | .skip,.skip=>true
 |_,_=>false
section
variable{P:Program} {O:Oracle}
theorem reserve_R {n:Nat} {β:Blk} {s:St} {a:Act} {w:World} (na:Nat) (h:R n β s a w):R n β (reserve na s) a w:=by
 cases na with
 |zero=>exact h
 |succ m=>exact⟨h.tm,h.hp⟩
theorem ev_seq (m:Nat) (a b:K) (s:St):ev P O m (.seq a b) s=match ev P O m a s with| .norm s'=>ev P O m b s'| .exit j s'=>.exit j s'| .ret s'=>.ret s'| .no=>.no:=by
 show(@Out.rec (fun _=>Out) (fun s=>ev P O m b s) (fun j s=>.exit j s) (fun s=>.ret s) .no (ev P O m a s))=_;rw[outrec]
 cases ev P O m a s<;>rfl
theorem ev_block (m i:Nat) (a:K) (s:St):ev P O m (.block i a) s=match ev P O m a s with| .norm s'=>.norm s'| .exit j s'=>if j=i then .norm s' else .exit j s'| .ret s'=>.ret s'| .no=>.no:=by
 show(@Out.rec (fun _=>Out) (fun s=>.norm s) (fun j s=>(Bool.rec (.exit j s) (.norm s) (Nat.beq j i):Out)) (fun s=>.ret s) .no (ev P O m a s))=_;rw[outrec]
 cases ev P O m a s with
 |exit j s'=>
  simp only[];rw[brec']
  by_cases h:j=i
  ·rw[if_pos h,if_pos (by rw[beq_iff];exact h)]
  ·rw[if_neg h,if_neg (by rw[beq_iff];exact h)]
 |_=>rfl
theorem ev_blk (m na:Nat) (l:List Ins) (s:St):ev P O m (.blk na l) s=match steps P O s.nx l (reserve na s)with|some s'=>.norm s'|none=>.no:=by
 show(@Option.rec St (fun _=>Out) .no (fun s=>.norm s) (steps P O s.nx l (reserve na s)))=_;rw[orec]
 cases steps P O s.nx l (reserve na s)<;>rfl
theorem ev_cond (m:Nat) (c:A) (a b:K) (s:St):ev P O m (.cond c a b) s=match cel s.tm c with|some (.bool t)=>if t=true then ev P O m a s else ev P O m b s|_=>.no:=by
 show(match cel s.tm c with|some (.bool t)=>(Bool.rec (ev P O m b s) (ev P O m a s) t:Out)|_=>.no)=_
 cases cel s.tm c with
 |none=>rfl
 |some x=>cases x<;>first|rfl|(simp only[];rw[brec'])
theorem ev_ok (hm:P.follows .mixedOrders=true) (hG:Good P O) (hO:Fr O) {n m:Nat}:∀{k:K} {c:Code} {s:St} {β:Blk} {a:Act} {w:World},fitK P n k c=true→ev P O m k s≠.no→R n β s a w→c.wp P (post n β w (ev P O m k s)) a w:=by
 intro k
 induction k with
 |blk na l=>
  intro c s β a w hf hno hR
  cases c<;>first|(exact absurd (show false=true from hf) (by decide))|skip
  rename_i id ops dr
  cases dr
  case true=>exact absurd (show false=true from hf) (by decide)
  have hf:fitBl P n ops l ops.toList=true:=hf;rw[ev_blk]at hno⊢
  split at hno
  ·rename_i s' hs
   refine wp_region ?_;rw[List.range_eq_range'];have:=steps_ok (k:=0) hG (Q:=post n β w (.norm s')) (by simpa using hf) (Nat.zero_le _) hs (reserve_R na hR) (fun β' a' w' hR' hm'=>⟨β',s',rfl,hR',hm'⟩);exact this
  ·exact absurd rfl hno
 |dblk na l chk=>
  intro c s β a w hf hno hR
  cases c<;>first|(exact absurd (show false=true from hf) (by decide))|skip
  rename_i id ops dr
  cases dr
  case false=>exact absurd (show false=true from hf) (by decide)
  have hf:fitDr P n ops l chk=true:=hf;have he:ev P O m (.dblk na l chk) s=(match stepsF P O s.nx l (reserve na s) []with
   |some (s',fs)=>(Bool.rec .no (.norm s') (okF fs (len l) chk):Out)
   |none=>.no):=rfl
  rw[he]at hno⊢
  split at hno
  ·rename_i s' fs hs
   rw[brec']at hno⊢
   split at hno
   ·rename_i hok
    try rw[if_pos hok]
    refine wp_region_any hm ?_;have hR':R n β (reserve na s) a {w with drawn:=w.drawn+1}:=by
     have:=reserve_R na hR;exact⟨this.tm,this.hp.drew _⟩
    exact dblk_ok hG hO hf hs hok hR' (fun β' a' w' hR' hm'=>⟨β',s',rfl,hR',(Mv.drew _).trans hm'⟩)
   ·exact absurd rfl hno
  ·exact absurd rfl hno
 |seq x y ihx ihy=>
  intro c s β a w hf hno hR
  cases c<;>simp only[fitK]at hf<;>try cases hf
  simp only[Bool.and_eq_true]at hf;rw[ev_seq]at hno⊢;have hx:ev P O m x s≠.no:=fun h=>by rw[h]at hno;exact hno rfl
  refine wp_seq (wp_mono (ihx hf.1 hx hR) (fun e a' w' hp=>?_))
  cases e with
  |normal=>
   obtain⟨β',s',he,hR',hm'⟩:=hp;rw[he]at hno⊢;exact wp_mono (ihy hf.2 hno hR') (fun e a'' w'' hp'=>post_from hm' hp')
  |exit j=>obtain⟨β',s',he,r⟩:=hp;rw[he];exact⟨β',s',rfl,r⟩
  |ret=>obtain⟨β',s',he,r⟩:=hp;rw[he];exact⟨β',s',rfl,r⟩
  |goto l=>exact hp
  |panic ch=>exact hp
  |outgrown=>exact hp
 |cond x y z ihy ihz=>
  intro c s β a w hf hno hR
  cases c<;>simp only[fitK]at hf<;>try cases hf
  simp only[Bool.and_eq_true]at hf;rw[ev_cond]at hno⊢
  split at hno
  ·rename_i t hc
   have hv:=cel_ok hR.tm hf.1 hc;refine wp_cond (t:=t) hv ?_
   cases t with
   |true=>exact ihy hf.2.1 hno hR
   |false=>exact ihz hf.2.2 hno hR
  ·exact absurd rfl hno
 |block i x ih=>
  intro c s β a w hf hno hR
  cases c<;>simp only[fitK]at hf<;>try cases hf
  simp only[Bool.and_eq_true,beq_iff]at hf;obtain⟨rfl,hf⟩:=hf;rw[ev_block]at hno⊢;have hx:ev P O m x s≠.no:=fun h=>by rw[h]at hno;exact hno rfl
  refine wp_block (wp_mono (ih hf hx hR) (fun e a' w' hp=>?_))
  cases e with
  |normal=>obtain⟨β',s',he,r⟩:=hp;rw[he];exact⟨β',s',rfl,r⟩
  |exit j=>
   obtain⟨β',s',he,r⟩:=hp;rw[he];simp only[Exit.inBlock]
   split
   ·rename_i hj;exact⟨β',s',rfl,r⟩
   ·rename_i hj;exact⟨β',s',rfl,r⟩
  |ret=>obtain⟨β',s',he,r⟩:=hp;rw[he];exact⟨β',s',rfl,r⟩
  |goto l=>exact hp
  |panic ch=>exact hp
  |outgrown=>exact hp
 |loop x ih=>
  intro c s β a w hf hno hR
  cases c<;>simp only[fitK]at hf<;>try cases hf
  rename_i c;intro b k cs;obtain⟨e,a',w',hp,harr⟩:=loop_ok (P:=P) (n:=n) (c:=c) (g:=ev P O m x) (fun hno' hR'=>ih hf hno' hR') m hno hR b k cs;exact⟨e,a',w',hp,.of_steps (.one step_loop) harr⟩
 |exit i=>
  intro c s β a w hf hno hR
  cases c<;>simp only[fitK]at hf<;>try cases hf
  have:=Nat.eq_of_beq_eq_true hf;subst this;exact wp_exit ⟨β,s,rfl,hR,Mv.refl _ _⟩
 |ret=>
  intro c s β a w hf hno hR
  cases c<;>simp only[fitK]at hf<;>try cases hf
  exact wp_ret ⟨β,s,rfl,hR,Mv.refl _ _⟩
 |skip=>
  intro c s β a w hf hno hR
  cases c<;>simp only[fitK]at hf<;>try cases hf
  exact wp_skip ⟨β,s,rfl,hR,Mv.refl _ _⟩
end
end Go.Proofs.YtiahijhpjloijaaGreat.V

namespace Go.Proofs.YtiahijhpjloijaaGreat.V
open Go Go.RowKit
noncomputable def fitPs:Nat→List Pos→Bool
 |_,[]=>true
 |i,p::l=>Nat.beq p.num (i+1)&&fitPs (i+1) l
noncomputable def fitR1 (P:Program) (n:Nat):Rv→ResultVar→Bool
 | .tmp p,.tmp t=>fitT n p t
 | .cell p k ag,.cell x t=>fitT n p x&&(szB P t k&&(agB P t ag&&Nat.blt 0 k))
 |_,_=>false
noncomputable def fitRs (P:Program) (n:Nat):List Rv→List ResultVar→Bool
 |[],[]=>true
 |r::l,x::m=>fitR1 P n r x&&fitRs P n l m
 |_,_=>false
noncomputable def fitF (P:Program) (f:Func) (b:Fn):Bool:=
 match f.body with
 |some c=>fitPs 0 b.ps&&(Nat.ble b.ps.length f.ntmps&&(fitRs P f.ntmps b.rs f.results.toList&&fitK P f.ntmps b.k c))
 |none=>false
def rvRun (tmps:Array Value):ResultVar→Sem Value
 | .tmp t=>pure (tmps.getD t undef)
 | .cell a t=>do loadVar t (←asAddr (tmps.getD a undef))
section
variable{P:Program} {O:Oracle}
theorem rv_ok {n:Nat} {β:Blk} {s:St} {a:Act} {w:World} (hR:R n β s a w) {r:Rv} {x:ResultVar} {d:D} (hf:fitR1 P n r x=true) (h:rv s r=some d):
 ∃v,(rvRun a.tmps x).run P w=.ok v w∧DV β d v:=by
 cases r with
 |tmp p=>cases x with
  |tmp t=>
   simp only[fitR1,fitT,Bool.and_eq_true,beq_iff,blt_iff]at hf;have:=hR.tm.val p d h;rw[hf.1]at this;exact⟨_,rfl,this⟩
  |cell y t=>cases hf
 |cell p k ag=>cases x with
  |tmp t=>cases hf
  |cell y t=>
   simp only[fitR1,fitT,Bool.and_eq_true,beq_iff,blt_iff]at hf;obtain⟨⟨hp,hlt⟩,hs,hg,hk⟩:=hf;simp only[rv]at h
   split at h
   ·rename_i id off hq
    have hv:=hR.tm.val p _ hq;rw[hp]at hv;obtain⟨b,sz,hb,hv⟩:CV β (.loc id off) (a.tmps.getD (y+1-1) undef):=hv;rw[Nat.add_sub_cancel]at hv
    split at h
    ·rename_i cs ho
     rw[brec']at h
     split at h
     ·rename_i hlen
      rw[beq_iff,len_eq,take_eq,drop_eq]at hlen;rw[take_eq,drop_eq]at h;obtain⟨i,hi,hik⟩:=szB_ok hs;obtain⟨b',sz',vs,hb',hvl,hal,hcell⟩:=objc_seg hR.hp ho off k hk hlen;obtain⟨rfl,_⟩:=CV.blk hb hb';obtain⟨v,hrun,hdv⟩:=load_ok (a:=⟨b,off,none⟩) (w:=w) hg hi hik hvl hal hcell h;refine⟨v,?_,hdv⟩;simp only[rvRun,hv,asAddr,Sem.run_bind,Sem.run_pure,Result.andThen_ok,hrun]
     ·cases h
    ·cases h
   ·cases h
theorem rvs_ok {n:Nat} {β:Blk} {s:St} {a:Act} {w:World} (hR:R n β s a w):∀{rs:List Rv} {xs:List ResultVar} {ds:List D},fitRs P n rs xs=true→each (rv s) rs=some ds→
 ∃vs,(xs.mapM (rvRun a.tmps)).run P w=.ok vs w∧Al (DV β) ds vs
 |[],[],ds,_,h=>by rw[each_nil]at h;cases h;exact⟨[],rfl,.nil⟩
 |[],_::_,_,h,_=>by cases h
 |_::_,[],_,h,_=>by cases h
 |r::rs,x::xs,ds,hf,h=>by
  simp only[fitRs,Bool.and_eq_true]at hf;rw[each_cons]at h
  split at h
  ·rename_i d hd
   split at h
   ·rename_i ds' hds
    cases h
    obtain⟨v,h1,h2⟩:=rv_ok hR hf.1 hd;obtain⟨vs,h3,h4⟩:=rvs_ok hR hf.2 hds;refine⟨v::vs,?_,.cons h2 h4⟩;simp only[List.mapM_cons,Sem.run_bind,h1,Result.andThen_ok,h3,Sem.run_pure]
   ·cases h
  ·cases h
theorem toX_ok {β:Blk} {d:D} {x:X} {v:Value} (h:toX d=some x) (hd:DV β d v):XV β x v:=by
 cases d<;>simp only[toX]at h<;>cases h<;>exact hd
theorem toXs_ok {β:Blk}:∀{ds:List D} {xs:List X} {vs:List Value},each toX ds=some xs→Al (DV β) ds vs→Al (XV β) xs vs
 |[],xs,vs,h,ha=>by rw[each_nil]at h;cases h;cases ha;exact .nil
 |d::ds,xs,vs,h,ha=>by
  rw[each_cons]at h
  split at h
  ·rename_i x hx
   split at h
   ·rename_i xs' hxs
    cases h
    cases ha with
    |cons hd ht=>exact .cons (toX_ok hx hd) (toXs_ok hxs ht)
   ·cases h
  ·cases h
theorem ends_ok {n:Nat} {β:Blk} {s:St} {a:Act} {w:World} (hR:R n β s a w) {b:Fn} {fn:Func} {d:D} {hp':Tr Ob} {nx':Pos} (hf:fitRs P n b.rs fn.results.toList=true) (h:ends b s=some (d,hp',nx')):
 hp'=s.hp∧∃v,(results fn a.tmps).run P w=.ok v w∧DV β d v:=by
 have hrun:∀vs:List Value,(fn.results.toList.mapM (rvRun a.tmps)).run P w=.ok vs w→(results fn a.tmps).run P w=.ok (if h:vs.toArray.size=1 then vs.toArray[0]else .tuple vs.toArray) w:=by
  intro vs hvs;have e:results fn a.tmps=(do let vs←fn.results.mapM (rvRun a.tmps);pure (if h:vs.size=1 then vs[0]else .tuple vs)):=by
   unfold results;congr 1
  rw[e,Sem.run_bind,Array.mapM_eq_mapM_toList];simp only[Sem.run_map,hvs,Result.andThen_ok,Sem.run_pure]
 unfold ends at h
 split at h
 ·rename_i d' hd
  cases h
  obtain⟨vs,h1,h2⟩:=rvs_ok hR hf hd;refine⟨rfl,?_⟩
  cases h2 with
  |cons hdv ht=>cases ht with
   |nil=>exact⟨_,hrun _ h1,hdv⟩
 ·rename_i ds hne hds
  split at h
  ·rename_i xs hxs
   cases h
   obtain⟨vs,h1,h2⟩:=rvs_ok hR hf hds;refine⟨rfl,.tuple vs.toArray,?_,vs.toArray,rfl,toXs_ok hxs h2⟩;rw[hrun _ h1];have hlen:vs.toArray.size≠1:=by
    intro hl;have hl2:ds.length=1:=by rw[Al.len h2];simpa using hl
    match ds,hl2 with
    |[d0],_=>exact hne d0 rfl
   rw[dif_neg hlen]
  ·cases h
 ·cases h
theorem pars_ok {β:Blk} {vs:Array Value} {m:Nat}:∀{ps:List Pos} {ds:List D} {tm tm':Tr D} {k:Nat},fitPs k ps=true→pars ps ds tm=some tm'→Al (DV β) ds (vs.toList.drop k)→ps.length≤m→
 (∀p d,Tr.get p tm=some d→DV β d ((vs++Array.replicate m undef).getD (p.num-1) undef))→(∀p d,Tr.get p tm'=some d→DV β d ((vs++Array.replicate m undef).getD (p.num-1) undef))∧ps.length=ds.length
 |[],ds,tm,tm',k,_,h,_,_,hv=>by
  cases ds with
  |nil=>have h:some tm=some tm':=h;cases h;exact⟨hv,rfl⟩
  |cons d ds=>have h:none=some tm':=h;cases h
 |p::ps,[],tm,tm',k,_,h,_,_,_=>by have h:none=some tm':=h;cases h
 |p::ps,d::ds,tm,tm',k,hf,h,ha,hm,hv=>by
  simp only[fitPs,Bool.and_eq_true,beq_iff]at hf;have h:pars ps ds (Tr.set p d tm)=some tm':=h;have hk:∃v,vs[k]?=some v∧DV β d v:=by
   obtain⟨v,hv,hd⟩:=Al.get (i:=0) ha (x:=d) rfl;rw[List.getElem?_drop,Array.getElem?_toList]at hv;exact⟨v,hv,hd⟩
  have ht:Al (DV β) ds (vs.toList.drop (k+1)):=by
   rw[show vs.toList.drop (k+1)=(vs.toList.drop k).drop 1 from by rw[List.drop_drop]];exact Al.drop 1 ha
  obtain⟨h1,h2⟩:=pars_ok (m:=m) hf.2 h ht (by simp at hm;omega) (fun q d' hq=>by
   by_cases e:p=q
   ·subst e
    rw[Tr.get_set_eq]at hq;cases hq;obtain⟨v,hv,hd⟩:=hk;rw[hf.1,Nat.add_sub_cancel];have hlt:k<vs.size:=(Array.getElem?_eq_some_iff.1 hv).1;have:(vs++Array.replicate m undef).getD k undef=v:=by
     have h1:(vs++Array.replicate m undef)[k]?=some v:=by rw[Array.getElem?_append_left hlt];exact hv
     rw[Array.getD_eq_getD_getElem?,h1];rfl
    rw[this];exact hd
   ·rw[Tr.get_set_ne _ _ e]at hq;exact hv q d' hq)
  exact⟨h1,by simp[h2]⟩
end
end Go.Proofs.YtiahijhpjloijaaGreat.V

namespace Go.Proofs.YtiahijhpjloijaaGreat.V
open Go Go.RowKit
noncomputable def wid (id:Pos) (e:Nat) (cs:List C) (s:St):St:={s with hp:=Tr.set id (.ob e cs) s.hp}
def Keep (a b:Tr Ob):Prop:=∀id,Tr.get id a≠none→Tr.get id b≠none
theorem Keep.refl (a:Tr Ob):Keep a a:=fun _ h=>h
theorem Keep.trans {a b c:Tr Ob} (h:Keep a b) (k:Keep b c):Keep a c:=fun id hi=>k id (h id hi)
def outSt:Out→Option St
 | .norm s=>some s
 | .exit _ s=>some s
 | .ret s=>some s
 | .no=>none
def mapO (g:St→St):Out→Out
 | .norm s=>.norm (g s)
 | .exit j s=>.exit j (g s)
 | .ret s=>.ret (g s)
 | .no=>.no
def FrE (g:St→Out):Prop:=∀s t,outSt (g s)=some t→Keep s.hp t.hp∧∀id e cs,Tr.get id t.hp=none→g (wid id e cs s)=mapO (wid id e cs) (g s)
section
variable{P:Program} {O:Oracle}
theorem step1_frame (hO:Fr O) {base:Pos} {x:Ins} {s s':St} (h:step1 P O base x s=some s'):
 Keep s.hp s'.hp∧(∀id e cs,Tr.get id s'.hp=none→step1 P O base x (wid id e cs s)=some (wid id e cs s'))∧(∀id e cs,Tr.get id s'.hp=none→FtLe (ft base x s s') (ft base x (wid id e cs s) (wid id e cs s'))):=by
 rw[step1_eq]at h
 split at h
 case h_2=>cases h
 rename_i d hp' nx' hd
 cases h
 obtain⟨k1,k2⟩:=stepD_frame hO hd;refine⟨k1,fun id e cs hn=>?_,fun id e cs hn=>?_⟩
 ·rw[step1_eq]
  have:=k2 id e cs hn;simp only[wid,this]
 ·have h0:=none_of k1 hn
  simp only[ft_eq,wid];unfold ftD
  split
  ·split
   ·exact .call fun x hx=>leaves_set h0 hn hx
   ·exact .refl _
  ·exact .refl _
theorem steps_frame (hO:Fr O) {base:Pos}:∀{l:List Ins} {s t:St},steps P O base l s=some t→Keep s.hp t.hp∧∀id e cs,Tr.get id t.hp=none→steps P O base l (wid id e cs s)=some (wid id e cs t)
 |[],s,t,h=>by cases h;exact⟨Keep.refl _,fun _ _ _ _=>rfl⟩
 |x::l,s,t,h=>by
  rw[steps_cons]at h
  split at h
  ·rename_i s' hs
   obtain⟨k1,k2,_⟩:=step1_frame hO hs;obtain⟨k3,k4⟩:=steps_frame hO h;refine⟨k1.trans k3,fun id e cs hn=>?_⟩;rw[steps_cons,k2 id e cs (none_of k3 hn)];exact k4 id e cs hn
  ·cases h
theorem stepsF_cons (base:Pos) (z:Nat×Ins) (l:List (Nat×Ins)) (s:St) (fs:List Ft):stepsF P O base (z::l) s fs=match step1 P O base z.2 s with|some s'=>stepsF P O base l s' (ft base z.2 s s'::fs)|none=>none:=by
 show(@Option.rec St (fun _=>Option (St×List Ft)) none (fun s'=>stepsF P O base l s' (ft base z.2 s s'::fs)) (step1 P O base z.2 s))=_;rw[orec]
 cases step1 P O base z.2 s<;>rfl
theorem stepsF_frame (hO:Fr O) {base:Pos}:∀{l:List (Nat×Ins)} {s t:St} {fs gs:List Ft},stepsF P O base l s fs=some (t,gs)→
 Keep s.hp t.hp∧∀id e cs,Tr.get id t.hp=none→∀fs',Al FtLe fs fs'→∃gs',stepsF P O base l (wid id e cs s) fs'=some (wid id e cs t,gs')∧Al FtLe gs gs'
 |[],s,t,fs,gs,h=>by
  have h:some (s,fs)=some (t,gs):=h
  cases h
  exact⟨Keep.refl _,fun _ _ _ _ fs' hf=>⟨fs',rfl,hf⟩⟩
 |z::l,s,t,fs,gs,h=>by
  rw[stepsF_cons]at h
  split at h
  ·rename_i s' hs
   obtain⟨k1,k2,k5⟩:=step1_frame hO hs;obtain⟨k3,k4⟩:=stepsF_frame hO h;refine⟨k1.trans k3,fun id e cs hn fs' hf=>?_⟩;have hn':=none_of k3 hn;rw[stepsF_cons,k2 id e cs hn'];exact k4 id e cs hn _ (.cons (k5 id e cs hn') hf)
  ·cases h
theorem okF_mono {n:Nat} {fs gs:List Ft} (h:Al FtLe fs gs):∀{chk:List (Nat×Nat)},okF fs n chk=true→okF gs n chk=true
 |[],_=>rfl
 |z::chk,hk=>by
  have hk:(match nth fs (n-1-z.1),nth fs (n-1-z.2)with
   |some x,some y=>(Bool.rec (okF fs n chk) false (clashes x y):Bool)
   |_,_=>false)=true:=hk
  show(match nth gs (n-1-z.1),nth gs (n-1-z.2)with
   |some x,some y=>(Bool.rec (okF gs n chk) false (clashes x y):Bool)
   |_,_=>false)=true
  split at hk
  ·rename_i x y hx hy
   rw[nth_eq]at hx hy;obtain⟨x',hx',lx⟩:=Al.get h hx;obtain⟨y',hy',ly⟩:=Al.get h hy;rw[nth_eq,nth_eq,hx',hy'];simp only[];rw[brec']at hk⊢
   split at hk
   ·cases hk
   ·rename_i hc
    have hc:clashes x y=false:=by simpa using hc
    rw[if_neg (by rw[clashes_mono lx ly hc];decide)];exact okF_mono h hk
  ·cases hk
theorem reserve_hp (na:Nat) (s:St):(reserve na s).hp=s.hp∧(reserve na s).tm=s.tm:=by cases na<;>exact⟨rfl,rfl⟩
theorem reserve_wid (na:Nat) (id:Pos) (e:Nat) (cs:List C) (s:St):reserve na (wid id e cs s)=wid id e cs (reserve na s):=by cases na<;>rfl
theorem iter_frame {g:St→Out} (hg:FrE g):∀m,FrE (iter g m)
 |0=>fun s t h=>by cases h
 |m+1=>fun s t h=>by
  rw[iter_succ]at h
  cases hgs:g s with
  |norm s'=>
   rw[hgs]at h;obtain⟨k1,k2⟩:=hg s s' (by rw[hgs];rfl);obtain⟨k3,k4⟩:=iter_frame hg m s' t h;refine⟨k1.trans k3,fun id e cs hn=>?_⟩;rw[iter_succ,iter_succ,k2 id e cs (none_of k3 hn),hgs];exact k4 id e cs hn
  |exit j s'=>
   rw[hgs]at h
   cases h
   obtain⟨k1,k2⟩:=hg s t (by rw[hgs];rfl);refine⟨k1,fun id e cs hn=>?_⟩;rw[iter_succ,iter_succ,k2 id e cs hn,hgs];rfl
  |ret s'=>
   rw[hgs]at h
   cases h
   obtain⟨k1,k2⟩:=hg s t (by rw[hgs];rfl);refine⟨k1,fun id e cs hn=>?_⟩;rw[iter_succ,iter_succ,k2 id e cs hn,hgs];rfl
  |no=>rw[hgs]at h;cases h
theorem ev_frame (hO:Fr O) (m:Nat):∀k:K,FrE (ev P O m k):=by
 intro k
 induction k with
 |blk na l=>
  intro s t h;rw[ev_blk]at h
  split at h
  ·rename_i s' hs
   cases h
   obtain⟨k1,k2⟩:=steps_frame hO hs;rw[(reserve_hp na s).1]at k1;refine⟨k1,fun id e cs hn=>?_⟩;have:=k2 id e cs hn;rw[ev_blk,ev_blk,reserve_wid];show(match steps P O s.nx l (wid id e cs (reserve na s))with|some s'=>Out.norm s'|none=>.no)=_;rw[this,hs];rfl
  ·cases h
 |dblk na l chk=>
  intro s t h;have he:∀s,ev P O m (.dblk na l chk) s=(match stepsF P O s.nx l (reserve na s) []with
   |some (s',fs)=>(Bool.rec .no (.norm s') (okF fs (len l) chk):Out)
   |none=>.no):=fun s=>rfl
  rw[he]at h
  split at h
  ·rename_i s' fs hs
   rw[brec']at h
   split at h
   ·rename_i hok
    cases h
    obtain⟨k1,k2⟩:=stepsF_frame hO hs;rw[(reserve_hp na s).1]at k1;refine⟨k1,fun id e cs hn=>?_⟩;obtain⟨gs',q1,q2⟩:=k2 id e cs hn [] .nil;rw[he,he,reserve_wid];show(match stepsF P O s.nx l (wid id e cs (reserve na s)) []with
     |some (s',fs)=>(Bool.rec .no (.norm s') (okF fs (len l) chk):Out)
     |none=>.no)=_
    rw[q1,hs];simp only[];rw[brec',brec',if_pos (okF_mono q2 hok),if_pos hok];rfl
   ·cases h
  ·cases h
 |seq a b iha ihb=>
  intro s t h;rw[ev_seq]at h
  cases hgs:ev P O m a s with
  |norm s'=>
   rw[hgs]at h;obtain⟨k1,k2⟩:=iha s s' (by rw[hgs];rfl);obtain⟨k3,k4⟩:=ihb s' t h;refine⟨k1.trans k3,fun id e cs hn=>?_⟩;rw[ev_seq,ev_seq,k2 id e cs (none_of k3 hn),hgs];exact k4 id e cs hn
  |exit j s'=>
   rw[hgs]at h;cases h;obtain⟨k1,k2⟩:=iha s t (by rw[hgs];rfl);exact⟨k1,fun id e cs hn=>by rw[ev_seq,ev_seq,k2 id e cs hn,hgs];rfl⟩
  |ret s'=>
   rw[hgs]at h;cases h;obtain⟨k1,k2⟩:=iha s t (by rw[hgs];rfl);exact⟨k1,fun id e cs hn=>by rw[ev_seq,ev_seq,k2 id e cs hn,hgs];rfl⟩
  |no=>rw[hgs]at h;cases h
 |cond c a b iha ihb=>
  intro s t h;rw[ev_cond]at h
  split at h
  ·rename_i t' hc
   have hc':∀id e cs,cel (wid id e cs s).tm c=some (.bool t'):=fun id e cs=>hc
   cases t' with
   |true=>
    obtain⟨k1,k2⟩:=iha s t h;exact⟨k1,fun id e cs hn=>by rw[ev_cond,ev_cond,hc' id e cs,hc];exact k2 id e cs hn⟩
   |false=>
    obtain⟨k1,k2⟩:=ihb s t h;exact⟨k1,fun id e cs hn=>by rw[ev_cond,ev_cond,hc' id e cs,hc];exact k2 id e cs hn⟩
  ·cases h
 |block i a ih=>
  intro s t h;rw[ev_block]at h
  cases hgs:ev P O m a s with
  |norm s'=>
   rw[hgs]at h;cases h;obtain⟨k1,k2⟩:=ih s t (by rw[hgs];rfl);exact⟨k1,fun id e cs hn=>by rw[ev_block,ev_block,k2 id e cs hn,hgs];rfl⟩
  |exit j s'=>
   rw[hgs]at h;have ht:s'=t:=by
    simp only[]at h
    split at h<;>exact Option.some.inj h
   subst ht;obtain⟨k1,k2⟩:=ih s s' (by rw[hgs];rfl);refine⟨k1,fun id e cs hn=>?_⟩;rw[ev_block,ev_block,k2 id e cs hn,hgs];simp only[mapO]
   split<;>rfl
  |ret s'=>
   rw[hgs]at h;cases h;obtain⟨k1,k2⟩:=ih s t (by rw[hgs];rfl);exact⟨k1,fun id e cs hn=>by rw[ev_block,ev_block,k2 id e cs hn,hgs];rfl⟩
  |no=>rw[hgs]at h;cases h
 |loop a ih=>exact iter_frame ih m
 |exit i=>intro s t h;cases h;exact⟨Keep.refl _,fun _ _ _ _=>rfl⟩
 |ret=>intro s t h;cases h;exact⟨Keep.refl _,fun _ _ _ _=>rfl⟩
 |skip=>intro s t h;cases h;exact⟨Keep.refl _,fun _ _ _ _=>rfl⟩
theorem rv_frame {s:St} {id:Pos} {e:Nat} {cs:List C} (hn:Tr.get id s.hp=none) {r:Rv} {d:D} (h:rv s r=some d):rv (wid id e cs s) r=some d:=by
 cases r with
 |tmp p=>exact h
 |cell p k ag=>
  simp only[rv]at h⊢
  split at h
  ·rename_i id' off hq
   have hq':Tr.get p (wid id e cs s).tm=some (.one (.loc id' off)):=hq
   split at h
   ·rename_i cs' ho
    have ho':objc (wid id e cs s).hp id'=some cs':=objc_mono (more_set hn) ho;simp only[hq',ho'];exact h
   ·cases h
  ·cases h
theorem each_frame {s s':St}:∀{rs:List Rv} {ds:List D},(∀r d,rv s r=some d→rv s' r=some d)→each (rv s) rs=some ds→each (rv s') rs=some ds
 |[],ds,_,h=>h
 |r::rs,ds,hm,h=>by
  rw[each_cons]at h⊢
  split at h
  ·rename_i d hd
   split at h
   ·rename_i ds' hds
    cases h
    rw[hm r d hd];simp only[];rw[each_frame hm hds]
   ·cases h
  ·cases h
theorem ends_frame {b:Fn} {s:St} {d:D} {hp':Tr Ob} {nx':Pos} (h:ends b s=some (d,hp',nx')):hp'=s.hp∧∀id e cs,Tr.get id s.hp=none→ends b (wid id e cs s)=some (d,Tr.set id (.ob e cs) s.hp,nx'):=by
 unfold ends at h
 split at h
 ·rename_i d' hd
  cases h
  refine⟨rfl,fun id e cs hn=>?_⟩;unfold ends;rw[each_frame (fun r d=>rv_frame hn) hd];rfl
 ·rename_i ds hne hds
  split at h
  ·rename_i xs hxs
   cases h
   refine⟨rfl,fun id e cs hn=>?_⟩;unfold ends;rw[each_frame (fun r d=>rv_frame hn) hds]
   match ds,hne with
   |[],_=>simp only[hxs];rfl
   |[d0],hne=>exact absurd rfl (hne d0)
   |d0::d1::ds,_=>simp only[hxs];rfl
  ·cases h
 ·cases h
noncomputable def body (P:Program) (O:Oracle) (m:Nat) (b:Fn) (ds:List D) (hp:Tr Ob) (nx:Pos):Option (D×Tr Ob×Pos):=
 match pars b.ps ds .e with
 |some tm=>match ev P O m b.k {tm:=tm,hp:=hp,nx:=nx}with
  | .norm s=>ends b s
  | .ret s=>ends b s
  |_=>none
 |none=>none
theorem den_succ (F:Nat→Option Fn) (X:Oracle→Oracle) (m n:Nat) (f:Nat) (ds:List D) (hp:Tr Ob) (nx:Pos):
 den P F X m (n+1) f ds hp nx=match F f with|some b=>body P (den P F X m n) m b ds hp nx|none=>X (den P F X m n) f ds hp nx:=by
 show(@Option.rec Fn (fun _=>Option (D×Tr Ob×Pos)) (X (den P F X m n) f ds hp nx)
  (fun fn=>@Option.rec (Tr D) (fun _=>Option (D×Tr Ob×Pos)) none (fun tm=>@Out.rec (fun _=>Option (D×Tr Ob×Pos)) (fun s=>ends fn s) (fun _ _=>none) (fun s=>ends fn s) none (ev P (den P F X m n) m fn.k {tm:=tm,hp:=hp,nx:=nx})) (pars fn.ps ds .e)) (F f))=_
 rw[orec]
 cases F f with
 |none=>rfl
 |some b=>
  simp only[body];rw[orec]
  cases pars b.ps ds .e with
  |none=>rfl
  |some tm=>
   simp only[];rw[outrec]
   cases ev P (den P F X m n) m b.k {tm:=tm,hp:=hp,nx:=nx}<;>rfl
theorem body_frame (hO:Fr O) {m:Nat} {b:Fn} {ds:List D} {hp hp':Tr Ob} {nx nx':Pos} {d:D} (h:body P O m b ds hp nx=some (d,hp',nx')):
 Keep hp hp'∧∀id e cs,Tr.get id hp'=none→body P O m b ds (Tr.set id (.ob e cs) hp) nx=some (d,Tr.set id (.ob e cs) hp',nx'):=by
 unfold body at h⊢
 cases hps:pars b.ps ds .e with
 |none=>rw[hps]at h;cases h
 |some tm=>
  rw[hps]at h;simp only[]at h⊢;have hfr:=ev_frame (P:=P) hO m b.k
  cases he:ev P O m b.k {tm:=tm,hp:=hp,nx:=nx}with
  |norm s=>
   rw[he]at h;obtain⟨rfl,e2⟩:=ends_frame h;obtain⟨k1,k2⟩:=hfr _ s (by rw[he];rfl);refine⟨k1,fun id e cs hn=>?_⟩;have:=k2 id e cs hn;rw[he]at this;show(match ev P O m b.k (wid id e cs {tm:=tm,hp:=hp,nx:=nx})with
    | .norm s=>ends b s
    | .ret s=>ends b s
    |_=>none)=_
   rw[this];exact e2 id e cs hn
  |ret s=>
   rw[he]at h;obtain⟨rfl,e2⟩:=ends_frame h;obtain⟨k1,k2⟩:=hfr _ s (by rw[he];rfl);refine⟨k1,fun id e cs hn=>?_⟩;have:=k2 id e cs hn;rw[he]at this;show(match ev P O m b.k (wid id e cs {tm:=tm,hp:=hp,nx:=nx})with
    | .norm s=>ends b s
    | .ret s=>ends b s
    |_=>none)=_
   rw[this];exact e2 id e cs hn
  |exit j s=>rw[he]at h;cases h
  |no=>rw[he]at h;cases h
theorem body_ok (hm:P.follows .mixedOrders=true) (hG:Good P O) (hO:Fr O) {m:Nat} {f:Nat} {fn:Func} {b:Fn} (hf:P.funcs[f]?=some fn) (hname:(fn.name== "runtime.NumGoroutine")=false) (hb:fitF P fn b=true)
 {ds:List D} {hp hp':Tr Ob} {nx nx':Pos} {d:D} (h:body P O m b ds hp nx=some (d,hp',nx')) {β:Blk} {w:World} {vs:Array Value} (hH:HV β hp w) (hv:Al (DV β) ds vs.toList):
 (callFunc f vs).run P w=.ok (.enter f vs) w∧Calls P f vs w (fun e w'=>∃v β',e=.returned v∧DV β' d v∧HV β' hp' w'∧Mv β w β' w'):=by
 unfold fitF at hb
 split at hb
 case h_2=>cases hb
 rename_i c hc;simp only[Bool.and_eq_true,ble_iff]at hb;obtain⟨hps,hle,hrs,hk⟩:=hb;refine⟨?_,?_⟩
 ·simp only[callFunc,Sem.run_bind,run_program,Result.andThen_ok,hf,hname,Bool.false_eq_true,if_false,hc,Option.isNone_some,Sem.run_pure]
 ·unfold body at h
  split at h
  case h_2=>cases h
  rename_i tm htm;obtain⟨h1,h2⟩:=pars_ok (β:=β) (m:=fn.ntmps) hps htm (by simpa using hv) hle (fun p d' hq=>by rw[Tr.get_e]at hq;cases hq);have hlen:vs.size=b.ps.length:=by rw[h2,Al.len hv];simp
  have hgetD:∀k,(vs++Array.replicate fn.ntmps undef).getD k undef=(vs++Array.replicate (fn.ntmps-vs.size) undef).getD k undef:=by
   intro k;simp only[Array.getD_eq_getD_getElem?,Array.getElem?_append,Array.getElem?_replicate]
   split
   ·rfl
   ·split<;>split<;>rfl
  have hT:TV fn.ntmps β tm {tmps:=vs++Array.replicate (fn.ntmps-vs.size) undef,defers:=[]}:=by
   refine⟨by simp;omega,rfl,fun p d' hq=>?_⟩;show DV β d' ((vs++Array.replicate (fn.ntmps-vs.size) undef).getD (p.num-1) undef);rw[←hgetD];exact h1 p d' hq
  have hR:R fn.ntmps β {tm:=tm,hp:=hp,nx:=nx} {tmps:=vs++Array.replicate (fn.ntmps-vs.size) undef,defers:=[]} w:=⟨hT,hH⟩;have hno:ev P O m b.k {tm:=tm,hp:=hp,nx:=nx}≠.no:=fun he=>by rw[he]at h;cases h
  refine calls_of_wp hf hc (wp_mono (ev_ok hm hG hO hk hno hR) ?_);intro e a' w' hp1
  cases e with
  |normal=>
   obtain⟨β',s',he,hR',hm'⟩:=hp1;rw[he]at h;obtain⟨rfl,v,hv1,hv2⟩:=ends_ok hR' hrs h;exact⟨hR'.tm.defers,v,hv1,v,β',rfl,hv2,hR'.hp,hm'⟩
  |exit j=>
   obtain⟨β',s',he,hR',hm'⟩:=hp1;rw[he]at h
   cases h
  |ret=>
   obtain⟨β',s',he,hR',hm'⟩:=hp1;rw[he]at h;obtain⟨rfl,v,hv1,hv2⟩:=ends_ok hR' hrs h;exact⟨hR'.tm.defers,v,hv1,v,β',rfl,hv2,hR'.hp,hm'⟩
  |goto l=>exact hp1.elim
  |panic ch=>exact hp1.elim
  |outgrown=>exact hp1.elim
def Fits (P:Program) (F:Nat→Option Fn):Prop:=∀f b,F f=some b→∃fn,P.funcs[f]?=some fn∧(fn.name== "runtime.NumGoroutine")=false∧fitF P fn b=true
theorem den_good (hm:P.follows .mixedOrders=true) {F:Nat→Option Fn} (hF:Fits P F) {X:Oracle→Oracle} (hX:∀O,Good P O→Fr O→Good P (X O)∧Fr (X O)) (m:Nat):∀n,Good P (den P F X m n)∧Fr (den P F X m n)
 |0=>⟨fun f ds hp nx d hp' nx' h=>(by cases h),fun f ds hp nx d hp' nx' h=>(by cases h)⟩
 |n+1=>by
  obtain⟨ihG,ihF⟩:=den_good hm hF hX m n;obtain⟨xG,xF⟩:=hX _ ihG ihF;refine⟨fun f ds hp nx d hp' nx' h β w vs hH hv=>?_,fun f ds hp nx d hp' nx' h=>?_⟩
  ·rw[den_succ]at h
   split at h
   ·rename_i b hb
    obtain⟨fn,h1,h2,h3⟩:=hF f b hb;exact .inl (body_ok hm ihG ihF h1 h2 h3 h hH hv)
   ·exact xG f ds hp nx d hp' nx' h β w vs hH hv
  ·rw[den_succ]at h
   split at h
   ·rename_i b hb
    obtain⟨k1,k2⟩:=body_frame ihF h;refine⟨k1,fun id e cs hn=>?_⟩;rw[den_succ,hb];exact k2 id e cs hn
   ·rename_i hb
    obtain⟨k1,k2⟩:=xF f ds hp nx d hp' nx' h;refine⟨k1,fun id e cs hn=>?_⟩;rw[den_succ,hb];exact k2 id e cs hn
end
end Go.Proofs.YtiahijhpjloijaaGreat.V

namespace Go.Proofs.YtiahijhpjloijaaGreat.V
open Go Go.RowKit
abbrev En:=Pos×Pos×Ob
noncomputable def hs (l:List En) (t:Tr Ob):Tr Ob:=List.rec t (fun x _ ih=>Tr.set x.1 x.2.2 ih) l
noncomputable def hb (l:List En) (t:Tr Ob):Tr Ob:=List.rec t (fun x _ ih=>Tr.set x.2.1 x.2.2 ih) l
noncomputable def up (l:List En) (t:Tr Pos):Tr Pos:=List.rec t (fun x _ ih=>Tr.set x.1 x.2.1 ih) l
noncomputable def dn (l:List En) (t:Tr Pos):Tr Pos:=List.rec t (fun x _ ih=>Tr.set x.2.1 x.1 ih) l
noncomputable def renC (σ:Tr Pos) (c:C):Option C:=
 match c with
 | .own p k n=>match Tr.get p σ with|some q=>some (.own q k n)|none=>none
 | .sl p k o n=>match Tr.get p σ with|some q=>some (.sl q k o n)|none=>none
 | .loc p o=>match Tr.get p σ with|some q=>some (.loc q o)|none=>none
 | .fs _ _ _=>none
 | .fp _ _ _ _=>none
 |c=>some c
noncomputable def renX (σ:Tr Pos) (x:X):Option X:=
 match x with
 | .one c=>match renC σ c with|some c=>some (.one c)|none=>none
 | .ag l=>match each (renC σ) l with|some l=>some (.ag l)|none=>none
noncomputable def renD (σ:Tr Pos) (d:D):Option D:=
 match d with
 | .one c=>match renC σ c with|some c=>some (.one c)|none=>none
 | .ag l=>match each (renC σ) l with|some l=>some (.ag l)|none=>none
 | .tup l=>match each (renX σ) l with|some l=>some (.tup l)|none=>none
noncomputable def sameX (x y:X):Bool:=
 match x,y with
 | .one c,.one d=>sameC c d
 | .ag l,.ag m=>sameL l m
 |_,_=>false
noncomputable def sameG {α:Type} (g:α→α→Bool) (l:List α):List α→Bool:=
 List.rec (fun m=>List.rec true (fun _ _ _=>false) m)
  (fun x _ ih m=>List.rec false (fun y t _=>Bool.rec false (ih t) (g x y)) m) l
noncomputable def sameD (x y:D):Bool:=
 match x,y with
 | .one c,.one d=>sameC c d
 | .ag l,.ag m=>sameL l m
 | .tup l,.tup m=>sameG sameX l m
 |_,_=>false
noncomputable def sameO (x y:Ob):Bool:=
 match x,y with
 | .ob e l,.ob f m=>Bool.rec false (sameL l m) (Nat.beq e f)
 | .dead,.dead=>true
 |_,_=>false
theorem sameG_spec {α:Type} {g:α→α→Bool} (hg:∀x y,g x y=true→x=y):∀{l m:List α},sameG g l m=true→l=m
 |[],[],_=>rfl
 |[],_::_,h=>by cases h
 |_::_,[],h=>by cases h
 |x::l,y::m,h=>by
  have h:(Bool.rec false (sameG g l m) (g x y):Bool)=true:=h;rw[brec']at h
  split at h
  ·rename_i hc;rw[hg x y hc,sameG_spec hg h]
  ·cases h
theorem sameX_spec {x y:X} (h:sameX x y=true):x=y:=by
 unfold sameX at h
 split at h
 ·rw[sameC_spec h]
 ·rw[sameL_spec h]
 ·cases h
theorem sameD_spec {x y:D} (h:sameD x y=true):x=y:=by
 unfold sameD at h
 split at h
 ·rw[sameC_spec h]
 ·rw[sameL_spec h]
 ·rw[sameG_spec (fun _ _=>sameX_spec) h]
 ·cases h
theorem sameO_spec {x y:Ob} (h:sameO x y=true):x=y:=by
 unfold sameO at h
 split at h
 ·rw[brec']at h
  split at h
  ·rename_i he;rw[beq_iff]at he;rw[he,sameL_spec h]
  ·cases h
 ·rfl
 ·cases h
theorem CV_ren {σ:Tr Pos} {β γ:Blk} (h:∀k b x,Tr.get k σ=some b→β b=some x→γ k=some x) {c c':C} {v:Value} (hr:renC σ c=some c') (hc:CV β c' v):CV γ c v:=by
 unfold renC at hr
 split at hr
 ·split at hr
  ·rename_i q hq;cases hr;obtain⟨b,sz,cap,hb,r⟩:=hc;exact⟨b,sz,cap,h _ _ _ hq hb,r⟩
  ·cases hr
 ·split at hr
  ·rename_i q hq;cases hr;obtain⟨b,sz,cap,hb,r⟩:=hc;exact⟨b,sz,cap,h _ _ _ hq hb,r⟩
  ·cases hr
 ·split at hr
  ·rename_i q hq;cases hr;obtain⟨b,sz,hb,r⟩:=hc;exact⟨b,sz,h _ _ _ hq hb,r⟩
  ·cases hr
 ·cases hr
 ·cases hr
 ·rename_i h1 h2 h3 h4 h5
  cases hr
  cases c<;>first|exact hc|(exact(h1 _ _ _ rfl).elim)|(exact(h2 _ _ _ _ rfl).elim)|(exact(h3 _ _ rfl).elim)|(exact(h4 _ _ _ rfl).elim)|(exact(h5 _ _ _ _ rfl).elim)
theorem CV_ren2 {σ:Tr Pos} {β γ:Blk} (h:∀k b x,Tr.get k σ=some b→β k=some x→γ b=some x) {c c':C} {v:Value} (hr:renC σ c=some c') (hc:CV β c v):CV γ c' v:=by
 unfold renC at hr
 split at hr
 ·split at hr
  ·rename_i q hq;cases hr;obtain⟨b,sz,cap,hb,r⟩:=hc;exact⟨b,sz,cap,h _ _ _ hq hb,r⟩
  ·cases hr
 ·split at hr
  ·rename_i q hq;cases hr;obtain⟨b,sz,cap,hb,r⟩:=hc;exact⟨b,sz,cap,h _ _ _ hq hb,r⟩
  ·cases hr
 ·split at hr
  ·rename_i q hq;cases hr;obtain⟨b,sz,hb,r⟩:=hc;exact⟨b,sz,h _ _ _ hq hb,r⟩
  ·cases hr
 ·cases hr
 ·cases hr
 ·rename_i h1 h2 h3 h4 h5
  cases hr
  cases c<;>first|exact hc|(exact(h1 _ _ _ rfl).elim)|(exact(h2 _ _ _ _ rfl).elim)|(exact(h3 _ _ rfl).elim)|(exact(h4 _ _ _ rfl).elim)|(exact(h5 _ _ _ _ rfl).elim)
theorem renC_un {σ:Tr Pos} {c c':C} (hr:renC σ c=some c'):c=.un↔c'=.un:=by
 unfold renC at hr
 split at hr
 ·split at hr
  ·cases hr;exact⟨(fun h=>by cases h),(fun h=>by cases h)⟩
  ·cases hr
 ·split at hr
  ·cases hr;exact⟨(fun h=>by cases h),(fun h=>by cases h)⟩
  ·cases hr
 ·split at hr
  ·cases hr;exact⟨(fun h=>by cases h),(fun h=>by cases h)⟩
  ·cases hr
 ·cases hr
 ·cases hr
 ·cases hr;exact Iff.rfl
theorem ck_ren {σ:Tr Pos} {β γ:Blk} (h:∀k b x,Tr.get k σ=some b→β b=some x→γ k=some x) {c c':C} {v:Value} (hr:renC σ c=some c') (hc:CK β c' v):CK γ c v:=
 ⟨CV_ren h hr hc.1,fun e=>hc.2 ((renC_un hr).1 e)⟩
theorem ck_ren2 {σ:Tr Pos} {β γ:Blk} (h:∀k b x,Tr.get k σ=some b→β k=some x→γ b=some x) {c c':C} {v:Value} (hr:renC σ c=some c') (hc:CK β c v):CK γ c' v:=
 ⟨CV_ren2 h hr hc.1,fun e=>hc.2 ((renC_un hr).2 e)⟩
theorem Al.comp {α β γ:Type} {R:α→β→Prop} {S:β→γ→Prop} {T:α→γ→Prop} (h:∀x y z,R x y→S y z→T x z):∀{l:List α} {m:List β} {n:List γ},Al R l m→Al S m n→Al T l n
 |_,_,_,.nil,.nil=>.nil
 |_,_,_,.cons a b,.cons c d=>.cons (h _ _ _ a c) (Al.comp h b d)
theorem Al.flip {α β:Type} {R:α→β→Prop}:∀{l:List α} {m:List β},Al R l m→Al (fun y x=>R x y) m l
 |_,_,.nil=>.nil
 |_,_,.cons a b=>.cons a (Al.flip b)
theorem DV_ren {σ:Tr Pos} {β γ:Blk} (h:∀k b x,Tr.get k σ=some b→β b=some x→γ k=some x) {d d':D} {v:Value} (hr:renD σ d=some d') (hd:DV β d' v):DV γ d v:=by
 have hL:∀{l l':List C} {vs:List Value},each (renC σ) l=some l'→Al (CK β) l' vs→Al (CK γ) l vs:=fun he ha=>Al.comp (S:=CK β) (T:=CK γ) (fun x y z a b=>ck_ren h a b) (each_spec _ _ _ he) ha
 have hX:∀{x x':X} {v:Value},renX σ x=some x'→XV β x' v→XV γ x v:=by
  intro x x' v hx hv
  cases x with
  |one c=>
   simp only[renX]at hx
   split at hx
   ·rename_i c' hc;cases hx;exact CV_ren h hc hv
   ·cases hx
  |ag l=>
   simp only[renX]at hx
   split at hx
   ·rename_i l' hl;cases hx;obtain⟨vs,e,ha⟩:=hv;exact⟨vs,e,hL hl ha⟩
   ·cases hx
 cases d with
 |one c=>
  simp only[renD]at hr
  split at hr
  ·rename_i c' hc;cases hr;exact CV_ren h hc hd
  ·cases hr
 |ag l=>
  simp only[renD]at hr
  split at hr
  ·rename_i l' hl;cases hr;obtain⟨vs,e,ha⟩:=hd;exact⟨vs,e,hL hl ha⟩
  ·cases hr
 |tup l=>
  simp only[renD]at hr
  split at hr
  ·rename_i l' hl;cases hr;obtain⟨vs,e,ha⟩:=hd;exact⟨vs,e,Al.comp (S:=XV β) (T:=XV γ) (fun x y z a b=>hX a b) (each_spec _ _ _ hl) ha⟩
  ·cases hr
theorem DV_ren2 {σ:Tr Pos} {β γ:Blk} (h:∀k b x,Tr.get k σ=some b→β k=some x→γ b=some x) {d d':D} {v:Value} (hr:renD σ d=some d') (hd:DV β d v):DV γ d' v:=by
 have hL:∀{l l':List C} {vs:List Value},each (renC σ) l=some l'→Al (CK β) l vs→Al (CK γ) l' vs:=fun he ha=>Al.comp (S:=CK β) (T:=CK γ) (fun x y z a b=>ck_ren2 h a b) (Al.flip (each_spec _ _ _ he)) ha
 have hX:∀{x x':X} {v:Value},renX σ x=some x'→XV β x v→XV γ x' v:=by
  intro x x' v hx hv
  cases x with
  |one c=>
   simp only[renX]at hx
   split at hx
   ·rename_i c' hc;cases hx;exact CV_ren2 h hc hv
   ·cases hx
  |ag l=>
   simp only[renX]at hx
   split at hx
   ·rename_i l' hl;cases hx;obtain⟨vs,e,ha⟩:=hv;exact⟨vs,e,hL hl ha⟩
   ·cases hx
 cases d with
 |one c=>
  simp only[renD]at hr
  split at hr
  ·rename_i c' hc;cases hr;exact CV_ren2 h hc hd
  ·cases hr
 |ag l=>
  simp only[renD]at hr
  split at hr
  ·rename_i l' hl;cases hr;obtain⟨vs,e,ha⟩:=hd;exact⟨vs,e,hL hl ha⟩
  ·cases hr
 |tup l=>
  simp only[renD]at hr
  split at hr
  ·rename_i l' hl;cases hr;obtain⟨vs,e,ha⟩:=hd;exact⟨vs,e,Al.comp (S:=XV β) (T:=XV γ) (fun x y z a b=>hX a b) (Al.flip (each_spec _ _ _ hl)) ha⟩
  ·cases hr
noncomputable def okIn (hp:Tr Ob) (σ τ:Tr Pos) (x:En):Bool:=
 match x with
 |(k,b,.ob e cs)=>match Tr.get b hp,each (renC σ) cs,Tr.get b τ with
  |some (.ob f ds),some cs',some k'=>Bool.rec false (Bool.rec false (sameL cs' ds) (Nat.beq e f)) (Pos.same k k')
  |_,_,_=>false
 |_=>false
noncomputable def okSt (h2:Tr Ob) (x:En):Bool:=match Tr.get x.1 h2 with|some o=>sameO x.2.2 o|none=>false
noncomputable def okNew (hp h2:Tr Ob) (σ σ2 τn:Tr Pos) (x:En):Bool:=
 match x with
 |(j,b,.ob e cs)=>match Tr.get j h2,Tr.get b hp,Tr.get j σ,Tr.get j σ2,Tr.get b τn with
  |some (.ob f ds),none,none,some b',some j'=>(match each (renC σ2) ds with
   |some ds'=>Bool.rec false (Bool.rec false (Bool.rec false (sameL ds' cs) (Nat.beq e f)) (Pos.same b b')) (Pos.same j j')
   |none=>false)
  |_,_,_,_,_=>false
 |_=>false
noncomputable def okArgs (σ:Tr Pos) (l:List D):List D→Bool:=sameG (fun x y=>match renD σ x with|some d=>sameD d y|none=>false) l
noncomputable def sub1 (O:Oracle) (f:Nat) (ds:List D) (hp:Tr Ob) (nx:Pos) (ds0:List D) (en:List En) (nxs:Pos) (lay:D→Tr Ob→Option (D×List En×Pos)):Option (D×Tr Ob×Pos):=
 Bool.rec none
  (match O f ds0 (hs en .e) nxs with
  |some (d,h2,_)=>match lay d h2 with
   |some (d',ne,nx')=>
    (match renD (up ne (up en .e)) d with
    |some d''=>Bool.rec none (some (d',hb ne hp,nx'))
     (Bool.rec false (Bool.rec false (all (okNew hp h2 (up en .e) (up ne (up en .e)) (dn ne .e)) ne) (all (okSt h2) en)) (sameD d'' d'))
    |none=>none)
   |none=>none
  |none=>none)
  (Bool.rec false (all (okIn hp (up en .e) (dn en .e)) en) (okArgs (up en .e) ds0 ds))
end Go.Proofs.YtiahijhpjloijaaGreat.V

namespace Go.Proofs.YtiahijhpjloijaaGreat.V
open Go Go.RowKit
theorem hs_cons (x:En) (l:List En) (t:Tr Ob):hs (x::l) t=Tr.set x.1 x.2.2 (hs l t):=rfl
theorem hb_cons (x:En) (l:List En) (t:Tr Ob):hb (x::l) t=Tr.set x.2.1 x.2.2 (hb l t):=rfl
theorem up_cons (x:En) (l:List En) (t:Tr Pos):up (x::l) t=Tr.set x.1 x.2.1 (up l t):=rfl
theorem dn_cons (x:En) (l:List En) (t:Tr Pos):dn (x::l) t=Tr.set x.2.1 x.1 (dn l t):=rfl
theorem hs_up (k:Pos) (t:Tr Ob) (u:Tr Pos):∀l:List En,(∃x∈l,x.1=k∧Tr.get k (hs l t)=some x.2.2∧Tr.get k (up l u)=some x.2.1)∨((∀x∈l,x.1≠k)∧Tr.get k (hs l t)=Tr.get k t∧Tr.get k (up l u)=Tr.get k u)
 |[]=>.inr ⟨(fun x hx=>by cases hx),rfl,rfl⟩
 |y::l=>by
  by_cases hk:y.1=k
  ·exact .inl ⟨y,List.mem_cons_self,hk,by rw[hs_cons,hk,Tr.get_set_eq],by rw[up_cons,hk,Tr.get_set_eq]⟩
  ·rcases hs_up k t u l with⟨x,hx,h1,h2,h3⟩|⟨h1,h2,h3⟩
   ·exact .inl ⟨x,List.mem_cons_of_mem _ hx,h1,by rw[hs_cons,Tr.get_set_ne _ _ hk];exact h2,by rw[up_cons,Tr.get_set_ne _ _ hk];exact h3⟩
   ·refine .inr ⟨fun x hx=>?_,by rw[hs_cons,Tr.get_set_ne _ _ hk];exact h2,by rw[up_cons,Tr.get_set_ne _ _ hk];exact h3⟩
    cases hx with
    |head=>exact hk
    |tail _ hx=>exact h1 x hx
theorem hb_dn (k:Pos) (t:Tr Ob) (u:Tr Pos):∀l:List En,(∃x∈l,x.2.1=k∧Tr.get k (hb l t)=some x.2.2∧Tr.get k (dn l u)=some x.1)∨((∀x∈l,x.2.1≠k)∧Tr.get k (hb l t)=Tr.get k t∧Tr.get k (dn l u)=Tr.get k u)
 |[]=>.inr ⟨(fun x hx=>by cases hx),rfl,rfl⟩
 |y::l=>by
  by_cases hk:y.2.1=k
  ·exact .inl ⟨y,List.mem_cons_self,hk,by rw[hb_cons,hk,Tr.get_set_eq],by rw[dn_cons,hk,Tr.get_set_eq]⟩
  ·rcases hb_dn k t u l with⟨x,hx,h1,h2,h3⟩|⟨h1,h2,h3⟩
   ·exact .inl ⟨x,List.mem_cons_of_mem _ hx,h1,by rw[hb_cons,Tr.get_set_ne _ _ hk];exact h2,by rw[dn_cons,Tr.get_set_ne _ _ hk];exact h3⟩
   ·refine .inr ⟨fun x hx=>?_,by rw[hb_cons,Tr.get_set_ne _ _ hk];exact h2,by rw[dn_cons,Tr.get_set_ne _ _ hk];exact h3⟩
    cases hx with
    |head=>exact hk
    |tail _ hx=>exact h1 x hx
theorem okIn_ok {hp:Tr Ob} {σ τ:Tr Pos} {x:En} (h:okIn hp σ τ x=true):∃e cs ds,x.2.2=.ob e cs∧Tr.get x.2.1 hp=some (.ob e ds)∧each (renC σ) cs=some ds∧Tr.get x.2.1 τ=some x.1:=by
 obtain⟨k,b,o⟩:=x
 cases o with
 |dead=>cases h
 |ob e cs=>
  simp only[okIn]at h
  split at h
  ·rename_i f ds cs' k' h1 h2 h3
   rw[brec']at h
   split at h
   ·rename_i hk
    rw[brec']at h
    split at h
    ·rename_i he
     rw[beq_iff]at he;have:=sameL_spec h;subst this;subst he;have:=Pos.same_spec.1 hk;subst this;exact⟨e,cs,cs',rfl,h1,h2,h3⟩
    ·cases h
   ·cases h
  ·cases h
theorem okSt_ok {h2:Tr Ob} {x:En} (h:okSt h2 x=true):Tr.get x.1 h2=some x.2.2:=by
 unfold okSt at h
 split at h
 ·rename_i o ho;rw[ho,sameO_spec h]
 ·cases h
theorem okNew_ok {hp h2:Tr Ob} {σ σ2 τn:Tr Pos} {x:En} (h:okNew hp h2 σ σ2 τn x=true):∃e cs ds,x.2.2=.ob e cs∧Tr.get x.1 h2=some (.ob e ds)∧each (renC σ2) ds=some cs∧
 Tr.get x.2.1 hp=none∧Tr.get x.1 σ=none∧Tr.get x.1 σ2=some x.2.1∧Tr.get x.2.1 τn=some x.1:=by
 obtain⟨j,b,o⟩:=x
 cases o with
 |dead=>cases h
 |ob e cs=>
  simp only[okNew]at h
  split at h
  ·rename_i f ds b' j' h1 h3 h4 h5 h6
   split at h
   ·rename_i ds' h7
    rw[brec']at h
    split at h
    ·rename_i hj
     rw[brec']at h
     split at h
     ·rename_i hb
      rw[brec']at h
      split at h
      ·rename_i he
       rw[beq_iff]at he;have:=sameL_spec h;subst this;subst he;have:=Pos.same_spec.1 hj;subst this;have:=Pos.same_spec.1 hb;subst this;exact⟨e,ds',ds,rfl,h1,h7,h3,h4,h5,h6⟩
      ·cases h
     ·cases h
    ·cases h
   ·cases h
  ·cases h
theorem sameG_al {α:Type} {g:α→α→Bool}:∀{l m:List α},sameG g l m=true→Al (fun x y=>g x y=true) l m
 |[],[],_=>.nil
 |[],_::_,h=>by cases h
 |_::_,[],h=>by cases h
 |x::l,y::m,h=>by
  have h:(Bool.rec false (sameG g l m) (g x y):Bool)=true:=h;rw[brec']at h
  split at h
  ·rename_i hc;exact .cons hc (sameG_al h)
  ·cases h
noncomputable def low (σ:Tr Pos) (β:Blk):Blk:=⟨fun k=>match Tr.get k σ with|some b=>β b|none=>none,fun _=>none⟩
noncomputable def high (τ:Tr Pos) (β0 β:Blk):Blk:=⟨fun b=>match Tr.get b τ with|some j=>β0 j|none=>β b,β.F⟩
section
variable{P:Program} {O:Oracle} {β:Blk} {hp:Tr Ob} {w:World} {en:List En}
theorem low_HV (hH:HV β hp w) (hin:∀x∈en,okIn hp (up en .e) (dn en .e) x=true):HV (low (up en .e) β) (hs en .e) w:=by
 have get0:∀{k:Pos} {o:Ob},Tr.get k (hs en .e)=some o→∃x∈en,x.1=k∧x.2.2=o∧Tr.get k (up en .e)=some x.2.1:=by
  intro k o h;rcases hs_up k .e .e en with⟨x,hx,h1,h2,h3⟩|⟨_,h2,_⟩
  ·rw[h]at h2;exact⟨x,hx,h1,(Option.some.inj h2).symm,h3⟩
  ·rw[h,Tr.get_e]at h2;cases h2
 refine⟨fun k x hx=>?_,fun k k' e cs e' cs' b sz sz' h1 h2 hb hb'=>?_,fun k e cs h=>?_,fun b c e fz h=>by cases h⟩
 ·have hx:(match Tr.get k (up en .e)with|some b=>β b|none=>none)=some x:=hx
  split at hx
  ·rename_i q hq
   rcases hs_up k .e .e en with⟨y,hy,h1,h2,h3⟩|⟨_,_,h3⟩
   ·exact⟨_,h2⟩
   ·rw[hq,Tr.get_e]at h3;cases h3
  ·cases hx
 ·obtain⟨x,hx,rfl,hxo,hxu⟩:=get0 h1
  obtain⟨y,hy,rfl,hyo,hyu⟩:=get0 h2;obtain⟨ex,cx,dx,_,gx,_,tx⟩:=okIn_ok (hin x hx);obtain⟨ey,cy,dy,_,gy,_,ty⟩:=okIn_ok (hin y hy);simp only[low,hxu]at hb;simp only[low,hyu]at hb';have:=hH.inj _ _ _ _ _ _ b sz sz' gx gy hb hb';rw[this,ty]at tx;exact(Option.some.inj tx).symm
 ·obtain⟨x,hx,rfl,hxo,hxu⟩:=get0 h
  obtain⟨ex,cx,dx,e1,gx,rx,tx⟩:=okIn_ok (hin x hx);rw[hxo]at e1
  cases e1
  obtain⟨b,c,fz,hb,hh,hlen,hcc,hfr⟩:=hH.obj _ _ _ gx;have hsp:=each_spec _ _ _ rx;have hl:=Al.len hsp;refine⟨b,c,fz,by simp only[low,hxu];exact hb,hh,by omega,fun i z hz=>?_,hfr⟩;obtain⟨z',hz',hr⟩:=Al.get hsp hz;obtain⟨v,hv,hck⟩:=hcc i z' hz';exact⟨v,hv,ck_ren (fun k q y hk hy=>by simp only[low,hk];exact hy) hr hck⟩
theorem low_DV (ds0:List D) {ds:List D} {vs:List Value} (hok:okArgs (up en .e) ds0 ds=true) (hv:Al (DV β) ds vs):Al (DV (low (up en .e) β)) ds0 vs:=by
 refine Al.comp (S:=DV β) (fun x y z a b=>?_) (sameG_al hok) hv
 split at a
 ·rename_i d hd
  have:=sameD_spec a;subst this;exact DV_ren (fun k q y hk hy=>by simp only[low,hk];exact hy) hd b
 ·cases a
theorem sub_back (hH:HV β hp w) (hin:∀x∈en,okIn hp (up en .e) (dn en .e) x=true) {h2:Tr Ob} {ne:List En} (hst:∀x∈en,okSt h2 x=true)
 (hnew:∀x∈ne,okNew hp h2 (up en .e) (up ne (up en .e)) (dn ne .e) x=true) {β0:Blk} {w':World} (hH2:HV β0 h2 w') (hM:Mv (low (up en .e) β) w β0 w'):
 HV (high (dn ne .e) β0 β) (hb ne hp) w'∧Mv β w (high (dn ne .e) β0 β) w'∧(∀k b x,Tr.get k (up ne (up en .e))=some b→β0 k=some x→high (dn ne .e) β0 β b=some x):=by
 have oldT:∀{b:Pos} {o:Ob},Tr.get b hp=some o→Tr.get b (dn ne .e)=none:=by
  intro b o hb;rcases hb_dn b hp .e ne with⟨x,hx,h1,_,_⟩|⟨_,_,h3⟩
  ·obtain⟨e,cs,ds,_,_,_,h4,_⟩:=okNew_ok (hnew x hx)
   rw[h1,hb]at h4;cases h4
  ·rw[h3];exact Tr.get_e _
 have hext:Ext β (high (dn ne .e) β0 β):=by
  refine⟨fun id x hx=>?_,rfl⟩;obtain⟨o,ho⟩:=hH.dom id x hx;simp only[high,oldT ho];exact hx
 have kept:∀{k b:Pos},Tr.get k (up en .e)=some b→∃bsz e cs ds,β b=some bsz∧β0 k=some bsz∧Tr.get b hp=some (.ob e ds)∧Tr.get k h2=some (.ob e cs)∧each (renC (up en .e)) cs=some ds:=by
  intro k b h;rcases hs_up k .e .e en with⟨x,hx,rfl,_,h3⟩|⟨_,_,h3⟩
  ·rw[h]at h3
   have hb:b=x.2.1:=Option.some.inj h3;subst hb;obtain⟨e,cs,ds,ho,g,r,t⟩:=okIn_ok (hin x hx);have hs2:=okSt_ok (hst x hx);rw[ho]at hs2;obtain⟨b,c,fz,hb,_⟩:=hH.obj _ _ _ g;exact⟨_,e,cs,ds,hb,hM.ext.m _ _ (by simp only[low,h];exact hb),g,hs2,r⟩
  ·rw[h,Tr.get_e]at h3;cases h3
 have hmap:∀k b x,Tr.get k (up ne (up en .e))=some b→β0 k=some x→high (dn ne .e) β0 β b=some x:=by
  intro k b x hk hx;rcases hs_up k .e (up en .e) ne with⟨y,hy,rfl,_,h3⟩|⟨_,_,h3⟩
  ·rw[hk]at h3
   have hb:b=y.2.1:=Option.some.inj h3;subst hb;obtain⟨e,cs,ds,_,_,_,_,_,_,t⟩:=okNew_ok (hnew y hy);simp only[high,t];exact hx
  ·rw[hk]at h3
   obtain⟨bsz,e,cs,ds,h4,h5,h6,_⟩:=kept h3.symm;rw[h5]at hx;simp only[high,oldT h6];rw[h4];exact hx
 have hlow:∀{id:Pos} {x:Nat×Nat},low (up en .e) β id=some x→∃q,Tr.get id (up en .e)=some q∧β q=some x:=by
  intro id x h;have h:(match Tr.get id (up en .e)with|some b=>β b|none=>none)=some x:=h
  split at h
  ·rename_i q hq;exact⟨q,hq,h⟩
  ·cases h
 have alive:∀{id:Pos} {e:Nat} {cs:List C},Tr.get id (hb ne hp)=some (.ob e cs)→
  (∃j ds,high (dn ne .e) β0 β id=β0 j∧Tr.get j h2=some (.ob e ds)∧each (renC (up ne (up en .e))) ds=some cs∧Tr.get j (up en .e)=none∧Tr.get j (up ne (up en .e))=some id)∨
  (high (dn ne .e) β0 β id=β id∧Tr.get id hp=some (.ob e cs)):=by
  intro id e cs h;rcases hb_dn id hp .e ne with⟨x,hx,h1,hx2,hx3⟩|⟨_,hx2,hx3⟩
  ·obtain⟨e',cs',ds,ho,g2,r,g3,g4,g5,t⟩:=okNew_ok (hnew x hx)
   rw[h,ho]at hx2
   cases hx2
   rw[h1]at g5;exact .inl ⟨x.1,ds,by simp only[high,hx3],g2,r,g4,g5⟩
  ·rw[h]at hx2
   refine .inr ⟨?_,hx2.symm⟩;have:Tr.get id (dn ne .e)=none:=by rw[hx3];exact Tr.get_e _
   simp only[high,this]
 have newOld:∀{j id:Pos} {e e':Nat} {ds cs:List C} {b sz sz':Nat},Tr.get j h2=some (.ob e ds)→Tr.get j (up en .e)=none→β0 j=some (b,sz)→Tr.get id hp=some (.ob e' cs)→β id=some (b,sz')→False:=by
  intro j id e e' ds cs b sz sz' hj hjn hbj hid hbid;have hlt:=hH.lt hid hbid;rcases hM.src j b sz hbj with⟨id0,sz0,h0⟩|hge
  ·obtain⟨q,hq,hbq⟩:=hlow h0
   obtain⟨bsz,e2,cs2,ds2,h4,h5,_,h6,_⟩:=kept hq;rw[hbq]at h4
   cases h4
   have:=hH2.inj _ _ _ _ _ _ b sz sz0 hj h6 hbj h5;rw[this,hq]at hjn
   cases hjn
  ·omega
 refine⟨⟨fun id x hx=>?_,fun i1 i2 e1 c1 e2 c2 b sz sz' g1 g2 hb1 hb2=>?_,fun id e cs g=>?_,fun b c e fz hF=>?_⟩,⟨hext,fun id b sz hb=>?_,hM.os,hM.tape,hM.output,hM.size,fun k hk hn=>hM.block k hk fun id sz h=>?_⟩,hmap⟩
 ·rcases hb_dn id hp .e ne with⟨x',_,_,h2',_⟩|⟨_,h2',h3⟩
  ·exact⟨_,h2'⟩
  ·rw[Tr.get_e]at h3
   simp only[high,h3]at hx;obtain⟨o,ho⟩:=hH.dom id x hx;exact⟨o,by rw[h2'];exact ho⟩
 ·rcases alive g1 with⟨j1,d1,a1,a2,a3,a4,a5⟩|⟨a1,a2⟩<;>rcases alive g2 with⟨j2,d2,b1,b2,b3,b4,b5⟩|⟨b1,b2⟩
  ·rw[a1]at hb1
   rw[b1]at hb2;have:=hH2.inj _ _ _ _ _ _ b sz sz' a2 b2 hb1 hb2;subst this;rw[a5]at b5;exact Option.some.inj b5
  ·rw[a1]at hb1
   rw[b1]at hb2;exact(newOld a2 a4 hb1 b2 hb2).elim
  ·rw[a1]at hb1
   rw[b1]at hb2;exact(newOld b2 b4 hb2 a2 hb1).elim
  ·rw[a1]at hb1
   rw[b1]at hb2;exact hH.inj _ _ _ _ _ _ b sz sz' a2 b2 hb1 hb2
 ·rcases alive g with⟨j,ds,a1,a2,a3,a4,a5⟩|⟨a1,a2⟩
  ·obtain⟨b,c,fz,hb,hh,hlen,hcc,hfr⟩:=hH2.obj _ _ _ a2
   have hsp:=each_spec _ _ _ a3;have hl:=Al.len hsp;refine⟨b,c,fz,a1.trans hb,hh,by omega,fun i z hz=>?_,hfr⟩;obtain⟨z',hz',hr⟩:=Al.get (Al.flip hsp) hz;obtain⟨v,hv,hck⟩:=hcc i z' hz';exact⟨v,hv,ck_ren2 hmap hr hck⟩
  ·by_cases hk:∃k,Tr.get k (up en .e)=some id
   ·obtain⟨k,hk⟩:=hk
    obtain⟨bsz,e',cs',ds,h4,h5,h6,h7,h8⟩:=kept hk;rw[a2]at h6
    cases h6
    obtain⟨b,c,fz,hb,hh,hlen,hcc,hfr⟩:=hH2.obj _ _ _ h7;rw[h5]at hb;have hsp:=each_spec _ _ _ h8;have hl:=Al.len hsp;refine⟨b,c,fz,by rw[a1,h4];exact hb,hh,by omega,fun i z hz=>?_,hfr⟩;obtain⟨z',hz',hr⟩:=Al.get (Al.flip hsp) hz;obtain⟨v,hv,hck⟩:=hcc i z' hz';refine⟨v,hv,ck_ren2 (fun k' b' x' hk' hx'=>?_) hr hck⟩;obtain⟨bsz',e2,cs2,ds2,g4,g5,g6,_⟩:=kept hk';rw[hx']at g5
    cases g5
    simp only[high,oldT g6];exact g4
   ·obtain⟨b,c,fz,hb,hh,hlen,hcc,hfr⟩:=hH.obj _ _ _ a2
    have hlt:=hH.lt a2 hb;have hblk:=hM.block b hlt (fun id0 sz0 h0=>by
     obtain⟨q,hq,hbq⟩:=hlow h0;obtain⟨bsz,e2,cs2,ds2,h4,_,h6,_⟩:=kept hq;have:=hH.inj _ _ _ _ _ _ b sz0 c.size h6 a2 hbq hb;subst this;exact hk ⟨id0,hq⟩)
    refine⟨b,c,fz,a1.trans hb,hblk.trans hh,hlen,fun i z hz=>?_,hfr⟩;obtain⟨v,hv,hck⟩:=hcc i z hz;exact⟨v,hv,hck.ext hext⟩
 ·have hF:β.F b=some (c,e,fz):=hF
  obtain⟨k1,k2⟩:=hH.fo b c e fz hF;have hlt:b<w.heap.size:=(Array.getElem?_eq_some_iff.1 k1).1;have hblk:=hM.block b hlt (fun id0 sz0 h0=>by
   obtain⟨q,hq,hbq⟩:=hlow h0;exact k2 q sz0 hbq)
  refine⟨hblk.trans k1,fun id sz hb=>?_⟩;have hb:(match Tr.get id (dn ne .e)with|some j=>β0 j|none=>β id)=some (b,sz):=hb
  split at hb
  ·rename_i j hj
   rcases hM.src j b sz hb with⟨id0,sz0,h0⟩|hge
   ·obtain⟨q,_,hbq⟩:=hlow h0
    exact k2 q sz0 hbq
   ·omega
  ·exact k2 id sz hb
 ·have hb:(match Tr.get id (dn ne .e)with|some j=>β0 j|none=>β id)=some (b,sz):=hb
  split at hb
  ·rename_i j hj
   rcases hM.src j b sz hb with⟨id0,sz0,h0⟩|hge
   ·obtain⟨q,_,hbq⟩:=hlow h0
    exact .inl ⟨q,sz0,hbq⟩
   ·exact .inr hge
  ·exact .inl ⟨id,sz,hb⟩
 ·obtain⟨q,_,hbq⟩:=hlow h
  exact hn q sz hbq
theorem sub1_ok (hG:Good P O) {f:Nat} {ds ds0:List D} {nx nxs nx':Pos} {lay:D→Tr Ob→Option (D×List En×Pos)} {d':D} {hp':Tr Ob}
 (h:sub1 O f ds hp nx ds0 en nxs lay=some (d',hp',nx')) {vs:Array Value} (hH:HV β hp w) (hv:Al (DV β) ds vs.toList):
 ((callFunc f vs).run P w=.ok (.enter f vs) w∧Calls P f vs w (fun e w'=>∃v β',e=.returned v∧DV β' d' v∧HV β' hp' w'∧Mv β w β' w'))∨
 (∃v β' w',(callFunc f vs).run P w=.ok (.value v) w'∧DV β' d' v∧HV β' hp' w'∧Mv β w β' w'):=by
 unfold sub1 at h;rw[brec']at h
 split at h
 case isFalse=>cases h
 rename_i hc1;rw[brec']at hc1
 split at hc1
 case isFalse=>cases hc1
 rename_i hargs;have hin:=all_true hc1
 split at h
 case h_2=>cases h
 rename_i d h2 nx2 hO
 split at h
 case h_2=>cases h
 rename_i d1 ne nx1 hlay
 split at h
 case h_2=>cases h
 rename_i d2 hren;rw[brec']at h
 split at h
 case isFalse=>cases h
 rename_i hc2
 cases h
 rw[brec']at hc2
 split at hc2
 case isFalse=>cases hc2
 rename_i hd;rw[brec']at hc2
 split at hc2
 case isFalse=>cases hc2
 rename_i hst;have hst:=all_true hst;have hnew:=all_true hc2;have:=sameD_spec hd;subst this;have fin:∀{v:Value} {β0:Blk} {w':World},DV β0 d v→HV β0 h2 w'→Mv (low (up en .e) β) w β0 w'→∃β',DV β' d2 v∧HV β' (hb ne hp) w'∧Mv β w β' w':=by
  intro v β0 w' hd0 hh0 hm0;obtain⟨k1,k2,k3⟩:=sub_back hH hin hst hnew hh0 hm0;exact⟨_,DV_ren2 k3 hren hd0,k1,k2⟩
 rcases hG f ds0 (hs en .e) nxs d h2 nx2 hO (low (up en .e) β) w vs (low_HV hH hin) (low_DV ds0 hargs hv)with⟨r1,r2⟩|⟨v,β0,w',r1,r2,r3,r4⟩
 ·refine .inl ⟨r1,Calls.mono r2 ?_⟩
  rintro e w' ⟨v,β0,rfl,g1,g2,g3⟩
  obtain⟨β',k1,k2,k3⟩:=fin g1 g2 g3;exact⟨v,β',rfl,k1,k2,k3⟩
 ·obtain⟨β',k1,k2,k3⟩:=fin r2 r3 r4
  exact .inr ⟨v,β',w',r1,k1,k2,k3⟩
end
end Go.Proofs.YtiahijhpjloijaaGreat.V

namespace Go.Proofs.YtiahijhpjloijaaGreat.V
open Go Go.RowKit
def idC:C→Option Pos
 | .own p _ _=>some p
 | .sl p _ _ _=>some p
 | .loc p _=>some p
 |_=>none
abbrev Fo:=Pos×Pos×Nat×List C
noncomputable def walk (hp:Tr Ob) (n:Nat):List C→Tr Pos→Pos→List Fo→Option (Tr Pos×Pos×List Fo):=
 Nat.rec (fun _ _ _ _=>none) (fun _ ih l τ nx acc=>
  match l with
  |[]=>some (τ,nx,acc)
  |c::l=>match idC c with
   |none=>ih l τ nx acc
   |some p=>match Tr.get p τ with
    |some _=>ih l τ nx acc
    |none=>match Tr.get p hp with
     |some (.ob e cs)=>ih (app cs l) (Tr.set p nx τ) (Pos.succ nx) ((p,nx,e,cs)::acc)
     |_=>none) n
noncomputable def flatX (l:List X):List C:=List.rec [] (fun x _ ih=>X.rec (fun c=>c::ih) (fun m=>app m ih) x) l
noncomputable def flat1 (d:D):List C:=D.rec (fun c=>[c]) (fun l=>l) (fun l=>flatX l) d
noncomputable def flat (l:List D):List C:=List.rec [] (fun d _ ih=>app (flat1 d) ih) l
noncomputable def can (fuel:Nat) (ds:List D) (hp:Tr Ob):Option (List D×List En×Pos):=
 match walk hp fuel (flat ds) .e .h []with
 |some (τ,nx,acc)=>(match each (renD τ) ds,each (fun x:Fo=>match each (renC τ) x.2.2.2 with|some cs=>some (x.2.1,x.1,Ob.ob x.2.2.1 cs)|none=>none) acc with
  |some ds0,some en=>some (ds0,en,nx)
  |_,_=>none)
 |none=>none
noncomputable def lay (fuel:Nat) (σ:Tr Pos) (nx:Pos) (d:D) (h2:Tr Ob):Option (D×List En×Pos):=
 match walk h2 fuel (flat1 d) σ nx []with
 |some (σ2,nx',acc)=>(match renD σ2 d,each (fun x:Fo=>match each (renC σ2) x.2.2.2 with|some cs=>some (x.1,x.2.1,Ob.ob x.2.2.1 cs)|none=>none) acc with
  |some d',some ne=>some (d',ne,nx')
  |_,_=>none)
 |none=>none
noncomputable def subO (fuel:Nat) (O:Oracle):Oracle:=fun f ds hp nx=>
 match can fuel ds hp with
 |some (ds0,en,nxs)=>sub1 O f ds hp nx ds0 en nxs (lay fuel (up en .e) nx)
 |none=>none
section
variable{P:Program} {O:Oracle}
theorem walk_succ (hp:Tr Ob) (n:Nat) (l:List C) (τ:Tr Pos) (nx:Pos) (acc:List Fo):walk hp (n+1) l τ nx acc=
 match l with
 |[]=>some (τ,nx,acc)
 |c::l=>match idC c with
  |none=>walk hp n l τ nx acc
  |some p=>match Tr.get p τ with
   |some _=>walk hp n l τ nx acc
   |none=>match Tr.get p hp with
    |some (.ob e cs)=>walk hp n (app cs l) (Tr.set p nx τ) (Pos.succ nx) ((p,nx,e,cs)::acc)
    |_=>none:=rfl
theorem walk_mono {a b:Tr Ob} (h:more a b):∀{n:Nat} {l:List C} {τ:Tr Pos} {nx:Pos} {acc:List Fo} {r:Tr Pos×Pos×List Fo},walk a n l τ nx acc=some r→walk b n l τ nx acc=some r
 |0,_,_,_,_,_,h=>by cases h
 |n+1,l,τ,nx,acc,r,hw=>by
  rw[walk_succ]at hw⊢
  cases l with
  |nil=>exact hw
  |cons c l=>
   cases hi:idC c with
   |none=>
    simp only[hi]at hw⊢;exact walk_mono h hw
   |some p=>
    simp only[hi]at hw⊢
    cases hq:Tr.get p τ with
    |some q=>
     simp only[hq]at hw⊢;exact walk_mono h hw
    |none=>
     simp only[hq]at hw⊢
     cases hg:Tr.get p a with
     |none=>rw[hg]at hw;cases hw
     |some o=>
      rw[hg]at hw;rw[h p o hg]
      cases o with
      |dead=>cases hw
      |ob e cs=>exact walk_mono h hw
theorem can_mono {a b:Tr Ob} (h:more a b) {fuel:Nat} {ds:List D} {r:List D×List En×Pos} (hc:can fuel ds a=some r):can fuel ds b=some r:=by
 unfold can at hc⊢
 split at hc
 ·rename_i τ nx acc hw;rw[walk_mono h hw];exact hc
 ·cases hc
theorem subO_good (hG:Good P O) (fuel:Nat):Good P (subO fuel O):=by
 intro f ds hp nx d hp' nx' h β w vs hH hv;unfold subO at h
 split at h
 ·exact sub1_ok hG h hH hv
 ·cases h
theorem okIn_mono {a b:Tr Ob} (h:more a b) {σ τ:Tr Pos} {x:En} (hx:okIn a σ τ x=true):okIn b σ τ x=true:=by
 obtain⟨k,q,o⟩:=x
 cases o with
 |dead=>cases hx
 |ob e cs=>
  simp only[okIn]at hx⊢
  split at hx
  ·rename_i f ds cs' k' h1 h2 h3
   simp only[h q _ h1,h2,h3];exact hx
  ·cases hx
theorem hb_keep (l:List En) (t:Tr Ob):Keep t (hb l t):=by
 intro id hid;rcases hb_dn id t .e l with⟨x,_,_,h,_⟩|⟨_,h,_⟩
 ·rw[h];intro h;cases h
 ·rw[h];exact hid
theorem hb_set (id:Pos) (o:Ob) (t:Tr Ob):∀{l:List En},(∀x∈l,x.2.1≠id)→hb l (Tr.set id o t)=Tr.set id o (hb l t)
 |[],_=>rfl
 |y::l,h=>by
  rw[hb_cons,hb_cons,hb_set id o t (fun x hx=>h x (List.mem_cons_of_mem _ hx)),Tr.set_comm _ _ _ (h y List.mem_cons_self)]
theorem subO_fr (fuel:Nat):Fr (subO fuel O):=by
 intro f ds hp nx d hp' nx' h;have key:Keep hp hp'∧(∀id e cs,Tr.get id hp'=none→subO fuel O f ds (Tr.set id (.ob e cs) hp) nx=some (d,Tr.set id (.ob e cs) hp',nx')):=by
  unfold subO at h⊢
  split at h
  case h_2=>cases h
  rename_i ds0 en nxs hcan;unfold sub1 at h;rw[brec']at h
  split at h
  case isFalse=>cases h
  rename_i hc1
  split at h
  case h_2=>cases h
  rename_i d0 h2 nx2 hO
  split at h
  case h_2=>cases h
  rename_i d1 ne nx1 hlay
  split at h
  case h_2=>cases h
  rename_i d2 hren;rw[brec']at h
  split at h
  case isFalse=>cases h
  rename_i hc2
  cases h
  refine⟨hb_keep _ _,fun id e cs hn=>?_⟩;have h0:=none_of (hb_keep ne hp) hn;have hmore:more hp (Tr.set id (.ob e cs) hp):=more_set h0;have hne:∀x∈ne,x.2.1≠id:=by
   intro x hx e';rcases hb_dn id hp .e ne with⟨y,_,_,h,_⟩|⟨h,_,_⟩
   ·rw[hn]at h;cases h
   ·exact h x hx e'
  rw[can_mono hmore hcan];simp only[];unfold sub1;have hc1':(Bool.rec false (all (okIn (Tr.set id (.ob e cs) hp) (up en .e) (dn en .e)) en) (okArgs (up en .e) ds0 ds):Bool)=true:=by
   rw[brec']at hc1⊢
   split at hc1
   ·rename_i ha
    rw[if_pos ha];have:=all_true hc1;exact all_of fun x hx=>okIn_mono hmore (this x hx)
   ·cases hc1
  have hc2':(Bool.rec false (Bool.rec false (all (okNew (Tr.set id (.ob e cs) hp) h2 (up en .e) (up ne (up en .e)) (dn ne .e)) ne) (all (okSt h2) en):Bool) (sameD d2 d):Bool)=true:=by
   rw[brec']at hc2⊢
   split at hc2
   ·rename_i ha
    rw[if_pos ha];rw[brec']at hc2⊢
    split at hc2
    ·rename_i hb'
     rw[if_pos hb'];have:=all_true hc2;refine all_of fun x hx=>?_
     have hx':=this x hx;obtain⟨j,b,o⟩:=x;have hbne:id≠b:=fun e'=>hne _ hx e'.symm
     cases o with
     |dead=>cases hx'
     |ob e' cs'=>
      simp only[okNew,Tr.get_set_ne _ _ hbne]at hx'⊢;exact hx'
    ·cases hc2
   ·cases hc2
  rw[brec',if_pos hc1',hO];simp only[hlay,hren];rw[brec',if_pos hc2',hb_set _ _ _ hne]
 exact key
noncomputable def sameT (t:Tr Ob):Tr Ob→Bool:=
 Tr.rec (fun u=>Tr.rec true (fun _ _ _ _ _=>false) u)
  (fun _ v _ il ir u=>Tr.rec false (fun l' v' r' _ _=>
    Bool.rec false (Bool.rec false (il l') (ir r')) (Option.rec (Option.rec true (fun _=>false) v') (fun o=>Option.rec false (fun o'=>sameO o o') v') v)) u) t
theorem sameT_spec:∀{t u:Tr Ob},sameT t u=true→t=u
 | .e,.e,_=>rfl
 | .e,.n _ _ _,h=>by cases h
 | .n _ _ _,.e,h=>by cases h
 | .n l v r,.n l' v' r',h=>by
   have h:(Bool.rec false (Bool.rec false (sameT l l') (sameT r r'):Bool) (Option.rec (Option.rec true (fun _=>false) v':Bool) (fun o=>(Option.rec false (fun o'=>sameO o o') v':Bool)) v:Bool):Bool)=true:=h;rw[brec']at h
   split at h
   ·rename_i hv
    rw[brec']at h
    split at h
    ·rename_i hr
     have e1:=sameT_spec h;have e2:=sameT_spec hr;have e3:v=v':=by
      cases v with
      |none=>cases v' with
       |none=>rfl
       |some o=>cases hv
      |some o=>cases v' with
       |none=>cases hv
       |some o'=>exact congrArg some (sameO_spec hv)
     rw[e1,e2,e3]
    ·cases h
   ·cases h
structure Known where
 f:Nat
 ds:List D
 hp:Tr Ob
 nx:Pos
 d:D
 hp':Tr Ob
 nx':Pos
noncomputable def hit (k:Known) (f:Nat) (ds:List D) (hp:Tr Ob) (nx:Pos):Bool:=
 Bool.rec false (Bool.rec false (Bool.rec false (sameT k.hp hp) (sameG sameD k.ds ds)) (Pos.same k.nx nx)) (Nat.beq k.f f)
noncomputable def memo (l:List Known) (O:Oracle):Oracle:=fun f ds hp nx=>
 List.rec (O f ds hp nx) (fun k _ ih=>Bool.rec ih (some (k.d,k.hp',k.nx')) (hit k f ds hp nx)) l
def KnownOk (O:Oracle) (k:Known):Prop:=O k.f k.ds k.hp k.nx=some (k.d,k.hp',k.nx')
theorem memo_eq:∀{l:List Known},(∀k∈l,KnownOk O k)→memo l O=O
 |[],_=>rfl
 |k::l,h=>by
  funext f ds hp nx
  show(Bool.rec (memo l O f ds hp nx) (some (k.d,k.hp',k.nx')) (hit k f ds hp nx):Option (D×Tr Ob×Pos))=_;rw[brec',memo_eq (fun x hx=>h x (List.mem_cons_of_mem _ hx))]
  split
  ·rename_i hh
   unfold hit at hh;rw[brec']at hh
   split at hh
   ·rename_i h1
    rw[brec']at hh
    split at hh
    ·rename_i h2
     rw[brec']at hh
     split at hh
     ·rename_i h3
      rw[beq_iff]at h1;have h2:=Pos.same_spec.1 h2;have h3:=sameG_spec (fun _ _=>sameD_spec) h3;have h4:=sameT_spec hh;have:=h k List.mem_cons_self;unfold KnownOk at this;rw[←h1,←h2,←h3,←h4];exact this.symm
     ·cases hh
    ·cases hh
   ·cases hh
  ·rfl
end
end Go.Proofs.YtiahijhpjloijaaGreat.V

