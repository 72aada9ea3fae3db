/- Parts of the proof, put together: F15, F16. -/
import Derived.Test.YtiahijhpjloijaaGreatM2
set_option linter.unusedVariables false
set_option linter.unusedSimpArgs false
namespace Go.Proofs.YtiahijhpjloijaaGreat.V
open Go Go.RowKit
def opnds:I→List A
 | .mv x| .box _ _ x| .ld _ _ x| .nilc x| .fa _ x| .fd _ _ _ x| .ex x _| .len _ x| .s2b _ x| .b2s x| .not x| .neg x| .cvi _ x| .cvf x=>[x]
 | .pick c a b=>[c,a,b]
 | .alloc .. | .mk .. =>[]
 | .bld _ ps| .bsl _ _ _ _ ps=>ps.map (·.2.2)
 | .st _ a x=>[a,x]
 | .ias _ x y| .iaa _ _ x y| .ixs x y| .ap _ _ _ x y| .aps _ _ x y| .apz _ _ _ _ x y| .bin _ _ x y| .beq x y| .mn x y| .mx x y=>[x,y]
 | .sl _ x lo hi| .sls x lo hi=>x::(lo.toList++hi.toList)
 | .call _ as=>as
def keysA:A→List Pos
 | .t p=>[p]
 | .c _=>[]
def reads (x:Ins):List Pos:=(match x.gd with|some (p,_)=>[p]|none=>[])++(opnds x.op).flatMap keysA
section
variable{P:Program} {tm tm':Tr D} {hp:Tr Ob}
theorem cel_congr {x:A} (h:val tm x=val tm' x):cel tm x=cel tm' x:=by unfold cel;rw[h]
theorem cells_congr {x:A} (h:val tm x=val tm' x):cells tm x=cells tm' x:=by unfold cells;rw[h]
theorem bnd_congr {x:Option A} (h:∀y∈x.toList,val tm y=val tm' y) (d n:Nat):bnd tm x d n=bnd tm' x d n:=by
 cases x with
 |none=>rfl
 |some y=>simp only[bnd];rw[cel_congr (h y (by simp))]
theorem fill_congr:∀{ps:List (Nat×Nat×A)} {zs:List C},(∀y∈ps.map (·.2.2),val tm y=val tm' y)→fill tm zs ps=fill tm' zs ps
 |[],zs,_=>rfl
 |(o,k,x)::ps,zs,h=>by
  rw[fill_cons,fill_cons,cells_congr (h x (by simp))]
  cases cells tm' x with
  |none=>rfl
  |some l=>simp only[];rw[fill_congr (fun y hy=>h y (by simp at hy⊢;exact .inr hy))]
theorem rd_tm {nid:Pos} {i:I} (h:∀x∈opnds i,val tm x=val tm' x):rd P nid i tm hp=rd P nid i tm' hp:=by
 have hc:∀x∈opnds i,cel tm x=cel tm' x:=fun x hx=>cel_congr (h x hx)
 have hl:∀x∈opnds i,cells tm x=cells tm' x:=fun x hx=>cells_congr (h x hx)
 cases i<;>simp only[rd]
 case len s x=>cases s<;>simp only[rd]<;>simp[opnds]at hc<;>rw[hc]
 case bld zs ps=>rw[fill_congr h]
 case bsl e k n zs ps=>rw[fill_congr h]
 case sl k x lo hi=>
  have h1:∀d n,bnd tm lo d n=bnd tm' lo d n:=fun d n=>bnd_congr (fun y hy=>h y (by simp only[opnds];exact List.mem_cons_of_mem _ (List.mem_append_left _ hy))) d n
  have h2:∀d n,bnd tm hi d n=bnd tm' hi d n:=fun d n=>bnd_congr (fun y hy=>h y (by simp only[opnds];exact List.mem_cons_of_mem _ (List.mem_append_right _ hy))) d n
  rw[hc x (by simp[opnds])];simp only[h1,h2]
 case sls x lo hi=>
  have h1:∀d n,bnd tm lo d n=bnd tm' lo d n:=fun d n=>bnd_congr (fun y hy=>h y (by simp only[opnds];exact List.mem_cons_of_mem _ (List.mem_append_left _ hy))) d n
  have h2:∀d n,bnd tm hi d n=bnd tm' hi d n:=fun d n=>bnd_congr (fun y hy=>h y (by simp only[opnds];exact List.mem_cons_of_mem _ (List.mem_append_right _ hy))) d n
  rw[hc x (by simp[opnds])];simp only[h1,h2]
 case st k a x=>rw[hc a (by simp[opnds]),hl x (by simp[opnds])]
 case pick c a b=>
  rw[hc c (by simp[opnds])]
  split
  ·rename_i t _
   cases t
   ·show(match val tm b with|some d=>_|none=>_)=_;rw[h b (by simp[opnds])];rfl
   ·show(match val tm a with|some d=>_|none=>_)=_;rw[h a (by simp[opnds])];rfl
  ·rfl
 all_goals first
  |rfl
  |(rw[h _ (by simp only[opnds];exact List.mem_cons_self),h _ (by simp only[opnds];exact List.mem_cons_of_mem _ List.mem_cons_self)])
  |(rw[hc _ (by simp only[opnds];exact List.mem_cons_self),hc _ (by simp only[opnds];exact List.mem_cons_of_mem _ List.mem_cons_self)])
  |(rw[h _ (by simp only[opnds];exact List.mem_cons_self)])
  |(rw[hc _ (by simp only[opnds];exact List.mem_cons_self)])
  |(rw[hl _ (by simp only[opnds];exact List.mem_cons_self)])
  |(rw[hc _ (by simp only[opnds];exact List.mem_cons_self),hl _ (by simp only[opnds];exact List.mem_cons_of_mem _ List.mem_cons_self)])
theorem foot_tm {nid:Pos} {i:I} (h:∀x∈opnds i,val tm x=val tm' x):foot nid i tm=foot nid i tm':=by
 have hc:∀x∈opnds i,cel tm x=cel tm' x:=fun x hx=>cel_congr (h x hx)
 cases i<;>simp only[foot,accX,accY]<;>first
  |rfl
  |(rw[hc _ (by simp only[opnds];exact List.mem_cons_self),hc _ (by simp only[opnds];exact List.mem_cons_of_mem _ List.mem_cons_self)])
  |(rw[hc _ (by simp only[opnds];exact List.mem_cons_self)])
theorem each_congr {f g:A→Option D}:∀{as:List A},(∀x∈as,f x=g x)→each f as=each g as
 |[],_=>rfl
 |x::as,h=>by rw[each_cons,each_cons,h x (by simp),each_congr (fun y hy=>h y (by simp[hy]))]
theorem guard_congr {g:Option (Pos×Bool)} (h:∀p∈(match g with|some (p,_)=>[p]|none=>[]),Tr.get p tm=Tr.get p tm'):guard g tm=guard g tm':=by
 cases g with
 |none=>rfl
 |some pb=>obtain⟨p,b⟩:=pb;unfold guard;simp only[];rw[h p (by simp)]
noncomputable def stepD (P:Program) (O:Oracle) (base:Pos) (x:Ins) (tm:Tr D) (hp:Tr Ob) (nx:Pos):Option (D×Tr Ob×Pos):=
 match guard x.gd tm with
 | .skip=>some (.one .un,hp,nx)
 | .bad=>none
 | .run=>match x.op with
   | .call f as=>match each (val tm) as with
     |some ds=>O f ds hp nx
     |none=>none
   |op=>match rd P (Pos.plus x.r base) op tm hp with
    |some (d,f)=>match fit (Pos.plus x.r base) f hp with
     |some hp'=>some (d,hp',nx)
     |none=>none
    |none=>none
theorem step1_eq (O:Oracle) (base:Pos) (x:Ins) (s:St):step1 P O base x s=match stepD P O base x s.tm s.hp s.nx with|some (d,hp,nx)=>some {tm:=put x.dst d s.tm,hp:=hp,nx:=nx}|none=>none:=by
 unfold step1 stepD
 cases guard x.gd s.tm with
 |skip=>rfl
 |bad=>rfl
 |run=>
  simp only[]
  cases x.op
  case call f as=>
   simp only[]
   cases each (val s.tm) as with
   |none=>rfl
   |some ds=>simp only[];cases O f ds s.hp s.nx<;>rfl
  all_goals
   simp only[];generalize rd P (Pos.plus x.r base) _ s.tm s.hp=r
   cases r with
   |none=>rfl
   |some df=>
    obtain⟨d,f⟩:=df;simp only[];generalize fit (Pos.plus x.r base) f s.hp=q
    cases q<;>rfl
noncomputable def ftD (base:Pos) (x:Ins) (tm:Tr D) (a b:Tr Ob):Ft:=
 match guard x.gd tm with
 | .run=>match x.op with
   | .call _ _=>.call a b
   |op=>.acc (foot (Pos.plus x.r base) op tm)
 |_=>.acc []
theorem ft_eq (base:Pos) (x:Ins) (s s':St):ft base x s s'=ftD base x s.tm s.hp s'.hp:=rfl
theorem val_reads {x:Ins} (h:∀p∈reads x,Tr.get p tm=Tr.get p tm'):∀y∈opnds x.op,val tm y=val tm' y:=by
 intro y hy
 cases y with
 |c d=>rfl
 |t p=>exact h p (List.mem_append_right _ (List.mem_flatMap.2 ⟨.t p,hy,by simp[keysA]⟩))
theorem stepD_tm {O:Oracle} {base:Pos} {x:Ins} {nx:Pos} (h:∀p∈reads x,Tr.get p tm=Tr.get p tm'):stepD P O base x tm hp nx=stepD P O base x tm' hp nx:=by
 have hv:=val_reads h;unfold stepD;rw[guard_congr (fun p hp=>h p (List.mem_append_left _ hp))]
 split
 ·rfl
 ·rfl
 ·cases hxo:x.op
  case call f as=>
   rw[hxo]at hv;simp only[];rw[each_congr (as:=as) hv]
  all_goals
   rw[hxo]at hv;simp only[];rw[rd_tm hv]
theorem ftD_tm {base:Pos} {x:Ins} {a b:Tr Ob} (h:∀p∈reads x,Tr.get p tm=Tr.get p tm'):ftD base x tm a b=ftD base x tm' a b:=by
 have hv:=val_reads h;unfold ftD;rw[guard_congr (fun p hp=>h p (List.mem_append_left _ hp))]
 split
 ·cases hxo:x.op
  case call f as=>rfl
  all_goals
   rw[hxo]at hv;simp only[];rw[foot_tm hv]
 ·rfl
end
end Go.Proofs.YtiahijhpjloijaaGreat.V

namespace Go.Proofs.YtiahijhpjloijaaGreat.V
open Go Go.RowKit
def cls:I→Nat
 | .ld .. | .b2s _=>1
 | .alloc .. | .box .. | .bsl .. | .mk .. | .s2b .. =>2
 | .st .. | .ap .. | .aps .. | .apz .. =>3
 | .call .. =>4
 |_=>0
def agree (a b:Tr Ob):Acc→Prop
 |(_,q,none)=>Tr.get q a=Tr.get q b
 |(_,q,some (o,k))=>Tr.get q a=Tr.get q b∨∃e cs ds,Tr.get q a=some (.ob e cs)∧Tr.get q b=some (.ob e ds)∧cs.length=ds.length∧(cs.drop o).take k=(ds.drop o).take k
section
variable{P:Program} {tm:Tr D} {a b:Tr Ob}
theorem objc_of {q:Pos} (h:Tr.get q a=Tr.get q b):objc a q=objc b q:=by unfold objc;rw[h]
theorem objc_some {q:Pos} {e:Nat} {cs:List C} (h:Tr.get q a=some (.ob e cs)):objc a q=some cs:=by unfold objc;rw[h]
theorem agree_all {w:Bool} {q:Pos} (h:agree a b (w,q,none)):Tr.get q a=Tr.get q b:=h
theorem elems_congr {c:C} (h:∀x∈accC false c,agree a b x):elems a c=elems b c:=by
 cases c<;>simp only[elems]<;>try rfl
 case own id k n=>rw[objc_of (agree_all (h (false,id,none) (by simp[accC])))]
 case sl id k o n=>rw[objc_of (agree_all (h (false,id,none) (by simp[accC])))]
theorem grow_congr {nid:Pos} {e k b' m:Nat} {c:C} {cs:List C} (h:∀x∈accC true c,agree a b x):grow nid e k b' c m cs a=grow nid e k b' c m cs b:=by
 cases c<;>simp only[grow]<;>try rfl
 case own id j n=>rw[agree_all (h (true,id,none) (by simp[accC]))]
theorem rd_agree {nid:Pos} {i:I} (h:∀x∈foot nid i tm,agree a b x):rd P nid i tm a=rd P nid i tm b:=by
 cases i<;>simp only[rd]<;>try rfl
 case ld k ag x=>
  simp only[foot]at h
  split
  ·rename_i id off hc
   simp only[hc]at h;rcases h _ (List.mem_singleton.2 rfl)with h|⟨e,cs,ds,h1,h2,h3,h4⟩
   ·rw[objc_of h]
   ·rw[objc_some h1,objc_some h2]
    simp only[take_eq,drop_eq,h4]
  ·rfl
  ·rfl
 case st k x y=>
  simp only[foot]at h
  split
  ·rename_i id off hc
   simp only[hc]at h;rcases h _ (List.mem_singleton.2 rfl)with h|⟨e,cs,ds,h1,h2,h3,h4⟩
   ·rw[objc_of h]
   ·rw[objc_some h1,objc_some h2]
    simp only[len_eq,h3]
  ·rfl
 case len s x=>cases s<;>rfl
 case ap e k b' x y=>
  simp only[foot,app_eq]at h
  split
  ·rename_i cx cy hx hy
   have h1:∀z∈accC true cx,agree a b z:=fun z hz=>h z (List.mem_append_left _ (by unfold accX;rw[hx];exact List.mem_cons_of_mem _ hz))
   have h2:∀z∈accC false cy,agree a b z:=fun z hz=>h z (List.mem_append_right _ (by unfold accY;rw[hy];exact hz))
   rw[elems_congr h2]
   split
   ·rw[grow_congr h1]
   ·rfl
  ·rfl
 case aps e b' x y=>
  simp only[foot]at h
  split
  ·rename_i cx l hx hy
   exact grow_congr (fun z hz=>h z (by unfold accX;rw[hx];exact List.mem_cons_of_mem _ hz))
  ·rfl
 case apz e k b' zs x y=>
  simp only[foot]at h
  split
  ·rename_i cx kk m hx hy
   rw[grow_congr (fun z hz=>h z (by unfold accX;rw[hx];exact List.mem_cons_of_mem _ hz))]
  ·rfl
 case b2s x=>
  simp only[foot]at h
  split
  ·rename_i c hx
   rw[elems_congr (fun z hz=>h z (by unfold accY;rw[hx];exact hz))]
  ·rfl
def within (nid:Pos) (f:Ef) (l:List Acc):Prop:=
 match f with
 | .no=>True
 | .new _=>(true,nid,none)∈l
 | .st id off cs=>(true,id,some (off,cs.length))∈l
 | .mv id _=>(true,nid,none)∈l∧(true,id,none)∈l
theorem grow_ef {nid:Pos} {e k b' m:Nat} {c:C} {cs:List C} {d:D} {f:Ef} (h:grow nid e k b' c m cs a=some (d,f)):within nid f ((true,nid,none)::accC true c)∧(∀o,f=.new o→∃l,o=.ob e l):=by
 unfold grow at h
 split at h
 ·split at h
  ·rw[brec']at h
   split at h
   ·cases h;exact⟨⟨List.mem_cons_self,by simp[accC]⟩,fun o ho=>by cases ho⟩
   ·cases h
  ·cases h
 ·split at h
  ·cases h;exact⟨trivial,fun o ho=>by cases ho⟩
  ·rw[brec']at h
   split at h
   ·cases h;exact⟨List.mem_cons_self,fun o ho=>by cases ho;exact⟨_,rfl⟩⟩
   ·cases h
 ·cases h
theorem rd_ef {nid:Pos} {i:I} {d:D} {f:Ef} (h:rd P nid i tm a=some (d,f)):
 within nid f (foot nid i tm)∧(cls i≤1→f=.no)∧(cls i=2→∃e l,f=.new (.ob e l))∧((∃id off l,f=.st id off l)∨(∃id o,f=.mv id o)→cls i=3):=by
 have pure0:∀{i:I} {f:Ef},f=.no→cls i≠2→within nid f (foot nid i tm)∧(cls i≤1→f=.no)∧(cls i=2→∃e l,f=.new (.ob e l))∧((∃id off l,f=.st id off l)∨(∃id o,f=.mv id o)→cls i=3):=by
  intro i f hf hne;subst hf;exact⟨trivial,fun _=>rfl,fun h=>absurd h hne,fun h=>by rcases h with⟨_,_,_,h⟩|⟨_,_,h⟩<;>cases h⟩
 cases i
 case alloc e zs=>simp only[rd]at h;cases h;exact⟨List.mem_singleton.2 rfl,fun h=>absurd h (by simp[cls]),fun _=>⟨_,_,rfl⟩,fun h=>by rcases h with⟨_,_,_,h⟩|⟨_,_,h⟩<;>cases h⟩
 case box e k x=>
  simp only[rd]at h
  split at h
  ·rw[brec']at h
   split at h
   ·cases h;exact⟨List.mem_singleton.2 rfl,fun h=>absurd h (by simp[cls]),fun _=>⟨_,_,rfl⟩,fun h=>by rcases h with⟨_,_,_,h⟩|⟨_,_,h⟩<;>cases h⟩
   ·cases h
  ·cases h
 case bsl e k n zs ps=>
  simp only[rd]at h
  split at h
  ·cases h;exact⟨List.mem_singleton.2 rfl,fun h=>absurd h (by simp[cls]),fun _=>⟨_,_,rfl⟩,fun h=>by rcases h with⟨_,_,_,h⟩|⟨_,_,h⟩<;>cases h⟩
  ·cases h
 case mk e k n zs=>simp only[rd]at h;cases h;exact⟨List.mem_singleton.2 rfl,fun h=>absurd h (by simp[cls]),fun _=>⟨_,_,rfl⟩,fun h=>by rcases h with⟨_,_,_,h⟩|⟨_,_,h⟩<;>cases h⟩
 case s2b e x=>
  simp only[rd]at h
  split at h
  ·cases h;exact⟨List.mem_singleton.2 rfl,fun h=>absurd h (by simp[cls]),fun _=>⟨_,_,rfl⟩,fun h=>by rcases h with⟨_,_,_,h⟩|⟨_,_,h⟩<;>cases h⟩
  ·cases h
 case st k x y=>
  simp only[rd]at h
  split at h
  ·rename_i id off hc
   split at h
   ·split at h
    ·rename_i l hl
     rw[brec']at h
     split at h
     ·rename_i hcond
      cases h
      refine⟨?_,fun h=>absurd h (by simp[cls]),fun h=>absurd h (by simp[cls]),fun _=>rfl⟩;rw[brec']at hcond
      split at hcond
      ·rename_i hk
       rw[beq_iff,len_eq]at hk;simp only[foot,hc,within,hk];exact List.mem_singleton.2 rfl
      ·cases hcond
     ·cases h
    ·cases h
   ·cases h
  ·cases h
 case ap e k b' x y=>
  simp only[rd]at h
  split at h
  ·rename_i cx cy hx hy
   split at h
   ·rw[brec']at h
    split at h
    ·obtain⟨h1,h2⟩:=grow_ef h
     refine⟨?_,fun h=>absurd h (by simp[cls]),fun h=>absurd h (by simp[cls]),fun _=>rfl⟩;have hsub:∀z∈((true,nid,none)::accC true cx),z∈foot nid (.ap e k b' x y) tm:=fun z hz=>by
      simp only[foot,app_eq];exact List.mem_append_left _ (by unfold accX;rw[hx];exact hz)
     cases f with
     |no=>trivial
     |new o=>exact hsub _ h1
     |st id off l=>exact hsub _ h1
     |mv id o=>exact⟨hsub _ h1.1,hsub _ h1.2⟩
    ·cases h
   ·cases h
  ·cases h
 case aps e b' x y=>
  simp only[rd]at h
  split at h
  ·rename_i cx l hx hy
   obtain⟨h1,h2⟩:=grow_ef h;refine⟨?_,fun h=>absurd h (by simp[cls]),fun h=>absurd h (by simp[cls]),fun _=>rfl⟩;have hsub:∀z∈((true,nid,none)::accC true cx),z∈foot nid (.aps e b' x y) tm:=fun z hz=>by
    simp only[foot];unfold accX;rw[hx];exact hz
   cases f with
   |no=>trivial
   |new o=>exact hsub _ h1
   |st id off l=>exact hsub _ h1
   |mv id o=>exact⟨hsub _ h1.1,hsub _ h1.2⟩
  ·cases h
 case apz e k b' zs x y=>
  simp only[rd]at h
  split at h
  ·rename_i cx kk m hx hy
   rw[brec']at h
   split at h
   ·obtain⟨h1,h2⟩:=grow_ef h
    refine⟨?_,fun h=>absurd h (by simp[cls]),fun h=>absurd h (by simp[cls]),fun _=>rfl⟩;have hsub:∀z∈((true,nid,none)::accC true cx),z∈foot nid (.apz e k b' zs x y) tm:=fun z hz=>by
     simp only[foot];unfold accX;rw[hx];exact hz
    cases f with
    |no=>trivial
    |new o=>exact hsub _ h1
    |st id off l=>exact hsub _ h1
    |mv id o=>exact⟨hsub _ h1.1,hsub _ h1.2⟩
   ·cases h
  ·cases h
 case call g as=>simp only[rd]at h;cases h
 case len s x=>
  refine pure0 ?_ (by simp[cls])
  cases s<;>simp only[rd]at h<;>(repeat' split at h)<;>first|(cases h;rfl)|cases h
 all_goals
  refine pure0 ?_ (by simp[cls]);simp only[rd,brec']at h
  (repeat' split at h)<;>first|(cases h;rfl)|cases h
end
end Go.Proofs.YtiahijhpjloijaaGreat.V

