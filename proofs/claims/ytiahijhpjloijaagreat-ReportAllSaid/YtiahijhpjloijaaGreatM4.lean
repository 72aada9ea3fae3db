/- Parts of the proof, put together: F17, F18, F19, F20, F21. -/
import Derived.Test.YtiahijhpjloijaaGreatM3
set_option linter.unusedVariables false
set_option linter.unusedSimpArgs false
namespace Go.Proofs.YtiahijhpjloijaaGreat.V
open Go Go.RowKit
theorem any_false {α:Type} {g:α→Bool}:∀{l:List α},any g l=false→∀x∈l,g x=false
 |[],_,x,hx=>by cases hx
 |y::l,h,x,hx=>by
  have h:(Bool.rec (any g l) true (g y):Bool)=false:=h
  cases hy:g y with
  |true=>rw[hy]at h;cases h
  |false=>
   rw[hy]at h
   cases hx with
   |head=>exact hy
   |tail _ hx=>exact any_false h x hx
theorem all_true {α:Type} {g:α→Bool}:∀{l:List α},all g l=true→∀x∈l,g x=true
 |[],_,x,hx=>by cases hx
 |y::l,h,x,hx=>by
  have h:(Bool.rec false (all g l) (g y):Bool)=true:=h
  cases hy:g y with
  |false=>rw[hy]at h;cases h
  |true=>
   rw[hy]at h
   cases hx with
   |head=>exact hy
   |tail _ hx=>exact all_true h x hx
theorem all_of {α:Type} {g:α→Bool}:∀{l:List α},(∀x∈l,g x=true)→all g l=true
 |[],_=>rfl
 |y::l,h=>by
  show(Bool.rec false (all g l) (g y):Bool)=true;rw[h y List.mem_cons_self];exact all_of fun x hx=>h x (List.mem_cons_of_mem _ hx)
theorem bnot {b:Bool} (h:(Bool.rec true false b:Bool)=false):b=true:=by cases b with|true=>rfl|false=>cases h
theorem clash_spec {v w:Bool} {p q:Pos} {r s:Option (Nat×Nat)} (h:clash (v,p,r) (w,q,s)=false) (hw:v=true∨w=true) (hpq:p=q):apartR r s=true:=by
 have h:(Bool.rec false (Bool.rec false (Bool.rec true false (apartR r s):Bool) (Pos.same p q):Bool) (Bool.rec w true v:Bool):Bool)=false:=h;have h1:(Bool.rec w true v:Bool)=true:=by rcases hw with rfl|rfl<;>first|rfl|(cases v<;>rfl)
 rw[h1,Pos.same_spec.2 hpq]at h;exact bnot h
theorem apartR_spec {r s:Option (Nat×Nat)} (h:apartR r s=true):∃a n b m,r=some (a,n)∧s=some (b,m)∧(a+n≤b∨b+m≤a):=by
 unfold apartR at h
 split at h
 ·rename_i a n b m
  refine⟨a,n,b,m,rfl,rfl,?_⟩;rw[brec']at h
  split at h
  ·rename_i h1;rw[ble_iff]at h1;exact .inl h1
  ·rw[ble_iff]at h;exact .inr h
 ·cases h
section
variable{P:Program} {tm:Tr D} {hp h1 h2:Tr Ob}
theorem splice_apart {new l:List C} {off o k:Nat} (hle:off+new.length≤l.length) (h:off+new.length≤o∨o+k≤off):((splice new off l).drop o).take k=(l.drop o).take k:=by
 apply List.ext_getElem?;intro i
 by_cases hi:i<k
 ·rw[List.getElem?_take_of_lt hi,List.getElem?_take_of_lt hi,List.getElem?_drop,List.getElem?_drop,splice_get new off l hle,if_neg (by omega)]
 ·rw[List.getElem?_take_eq_none (by omega),List.getElem?_take_eq_none (by omega)]
theorem grow_st {nid:Pos} {e k b' m:Nat} {c:C} {cs:List C} {d:D} {id:Pos} {off:Nat} {l:List C} (h:grow nid e k b' c m cs hp=some (d,.st id off l)):False:=by
 unfold grow at h
 split at h
 ·split at h
  ·rw[brec']at h
   split at h<;>cases h
  ·cases h
 ·split at h
  ·cases h
  ·rw[brec']at h
   split at h<;>cases h
 ·cases h
theorem st_len {nid:Pos} {i:I} {d:D} {id:Pos} {off:Nat} {l:List C} {e:Nat} {cs:List C} (hr:rd P nid i tm hp=some (d,.st id off l)) (hg:Tr.get id hp=some (.ob e cs)):off+l.length≤cs.length:=by
 have hc:=(rd_ef hr).2.2.2 (.inl ⟨_,_,_,rfl⟩)
 cases i<;>first|(exfalso;revert hc;simp[cls];done)|skip
 case st k ax x=>
  simp only[rd]at hr
  split at hr
  ·split at hr
   ·rename_i cs' ho
    split at hr
    ·rw[brec']at hr
     split at hr
     ·rename_i hcond
      rw[brec']at hcond
      split at hcond
      ·rename_i hk
       rw[beq_iff,len_eq]at hk;rw[ble_iff,len_eq]at hcond
       cases hr
       rw[objc_some hg]at ho
       cases ho
       omega
      ·cases hcond
     ·cases hr
    ·cases hr
   ·cases hr
  ·cases hr
 case ap e k b' x y=>
  simp only[rd]at hr
  split at hr
  ·split at hr
   ·rw[brec']at hr
    split at hr
    ·exact(grow_st hr).elim
    ·cases hr
   ·cases hr
  ·cases hr
 case aps e b' x y=>
  simp only[rd]at hr
  split at hr
  ·exact(grow_st hr).elim
  ·cases hr
 case apz e k b' zs x y=>
  simp only[rd]at hr
  split at hr
  ·rw[brec']at hr
   split at hr
   ·exact(grow_st hr).elim
   ·cases hr
  ·cases hr
theorem fit_agree {nid:Pos} {i:I} {d:D} {f:Ef} (hr:rd P nid i tm hp=some (d,f)) (hf:fit nid f hp=some h1) {x:Acc}
 (hc:∀y∈foot nid i tm,clash y x=false):agree hp h1 x:=by
 obtain⟨hw,_,_,_⟩:=rd_ef hr;obtain⟨w,q,r⟩:=x;have other:∀(id:Pos) (o:Ob) (g:Tr Ob),id≠q→(Tr.get q g=Tr.get q hp)→Tr.get q (Tr.set id o g)=Tr.get q hp:=fun id o g hne hg=>by rw[Tr.get_set_ne _ _ hne];exact hg
 have ofEq:Tr.get q hp=Tr.get q h1→agree hp h1 (w,q,r):=fun h=>by
  cases r with
  |none=>exact h
  |some ok=>obtain⟨o,k⟩:=ok;exact .inl h
 have ne:∀{id:Pos},(true,id,none)∈foot nid i tm→id≠q:=fun{id} hm e=>by
  have:=clash_spec (hc _ hm) (.inl rfl) e;obtain⟨_,_,_,_,h,_⟩:=apartR_spec this
  cases h
 cases f with
 |no=>cases hf;exact ofEq rfl
 |new o=>
  obtain⟨_,rfl⟩:=fit_new hf;exact ofEq (other nid o hp (ne hw) rfl).symm
 |mv id o=>
  obtain⟨_,rfl⟩:=fit_mv hf;exact ofEq (other nid o _ (ne hw.1) (other id .dead hp (ne hw.2) rfl)).symm
 |st id off l=>
  simp only[fit]at hf
  split at hf
  ·rename_i e cs hg
   cases hf
   by_cases hid:id=q
   ·subst hid
    obtain⟨a',n',b',m',e1,e2,e3⟩:=apartR_spec (clash_spec (hc _ hw) (.inl rfl) rfl)
    cases e1
    subst e2;have hlen:off+l.length≤cs.length:=st_len hr hg;exact .inr ⟨e,cs,_,hg,Tr.get_set_eq _ _ _,(splice_len _ _ _).symm,(splice_apart hlen e3).symm⟩
   ·exact ofEq (other id _ hp hid rfl).symm
  ·cases hf
theorem clash_symm {x y:Acc} (h:clash x y=false):clash y x=false:=by
 obtain⟨v,p,r⟩:=x;obtain⟨w,q,s⟩:=y
 cases hc:clash (w,q,s) (v,p,r)with
 |false=>rfl
 |true=>
  exfalso;have hc:(Bool.rec false (Bool.rec false (Bool.rec true false (apartR s r):Bool) (Pos.same q p):Bool) (Bool.rec v true w:Bool):Bool)=true:=hc;have hvw:v=true∨w=true:=by
   cases v with
   |true=>exact .inl rfl
   |false=>cases w with
    |true=>exact .inr rfl
    |false=>cases hc
  have h1:(Bool.rec v true w:Bool)=true:=by rcases hvw with rfl|rfl<;>first|rfl|(cases w<;>rfl)
  rw[h1]at hc
  cases hs:Pos.same q p with
  |false=>rw[hs]at hc;cases hc
  |true=>
   rw[hs]at hc;have e:=(Pos.same_spec.1 hs).symm;obtain⟨a,n,b,m,rfl,rfl,hd⟩:=apartR_spec (clash_spec h hvw e);have hc:(Bool.rec true false (apartR (some (b,m)) (some (a,n))):Bool)=true:=hc;have:apartR (some (b,m)) (some (a,n))=true:=by
    show(Bool.rec (Nat.ble (a+n) b) true (Nat.ble (b+m) a):Bool)=true;rcases hd with hd|hd
    ·rw[Nat.ble_eq_true_of_le hd];cases Nat.ble (b+m) a<;>rfl
    ·rw[Nat.ble_eq_true_of_le hd]
   rw[this]at hc
   cases hc
theorem swapL {n1 n2:Pos} {x y:I} {d1 d2:D} {f1 f2:Ef} (hx:rd P n1 x tm hp=some (d1,f1)) (e1:fit n1 f1 hp=some h1) (hy:rd P n2 y tm h1=some (d2,f2)) (e2:fit n2 f2 h1=some h2)
 (hc:∀a∈foot n1 x tm,∀b∈foot n2 y tm,clash a b=false) (h33:¬(cls x=3∧cls y=3)):
 ∃h1',rd P n2 y tm hp=some (d2,f2)∧fit n2 f2 hp=some h1'∧rd P n1 x tm h1'=some (d1,f1)∧fit n1 f1 h1'=some h2:=by
 have ag1:∀b∈foot n2 y tm,agree hp h1 b:=fun b hb=>fit_agree hx e1 (fun a ha=>hc a ha b hb)
 have hy':rd P n2 y tm hp=some (d2,f2):=by rw[rd_agree ag1];exact hy
 obtain⟨w1,_,_,c1⟩:=rd_ef hx;obtain⟨w2,_,_,c2⟩:=rd_ef hy';have ne:∀{p q:Pos},(true,p,none)∈foot n1 x tm→(true,q,none)∈foot n2 y tm→p≠q:=fun hp hq e=>by
  obtain⟨_,_,_,_,h,_⟩:=apartR_spec (clash_spec (hc _ hp _ hq) (.inl rfl) e)
  cases h
 have ne1:∀{p q:Pos} {r:Option (Nat×Nat)},(true,p,none)∈foot n1 x tm→(true,q,r)∈foot n2 y tm→p≠q:=fun hp hq e=>by
  obtain⟨_,_,_,_,h,_⟩:=apartR_spec (clash_spec (hc _ hp _ hq) (.inl rfl) e)
  cases h
 have ne2:∀{p q:Pos} {r:Option (Nat×Nat)},(true,p,r)∈foot n1 x tm→(true,q,none)∈foot n2 y tm→p≠q:=fun hp hq e=>by
  obtain⟨_,_,_,_,_,h,_⟩:=apartR_spec (clash_spec (hc _ hp _ hq) (.inl rfl) e)
  cases h
 have hex:∃h1',fit n2 f2 hp=some h1'∧fit n1 f1 h1'=some h2:=by
  cases f1 with
  |no=>
   cases e1
   exact⟨h2,e2,rfl⟩
  |new o1=>
   obtain⟨a1,rfl⟩:=fit_new e1
   cases f2 with
   |no=>cases e2;exact⟨hp,rfl,e1⟩
   |new o2=>
    obtain⟨a2,rfl⟩:=fit_new e2;have hn:=ne w1 w2;rw[Tr.get_set_ne _ _ hn]at a2;refine⟨Tr.set n2 o2 hp,by simp only[fit,a2],?_⟩;simp only[fit,Tr.get_set_ne _ _ hn.symm,a1];rw[Tr.set_comm _ _ _ hn]
   |st id off l=>
    have hn:=ne1 w1 w2;simp only[fit,Tr.get_set_ne _ _ hn]at e2
    split at e2
    ·rename_i e cs hg
     cases e2
     refine⟨Tr.set id (.ob e (splice l off cs)) hp,by simp only[fit,hg],?_⟩;simp only[fit,Tr.get_set_ne _ _ hn.symm,a1];rw[Tr.set_comm _ _ _ hn]
    ·cases e2
   |mv id o2=>
    obtain⟨a2,rfl⟩:=fit_mv e2;have hn:=ne w1 w2.1;have hn':=ne w1 w2.2;rw[Tr.get_set_ne _ _ hn]at a2;refine⟨Tr.set n2 o2 (Tr.set id .dead hp),by simp only[fit,a2],?_⟩;simp only[fit,Tr.get_set_ne _ _ hn.symm,Tr.get_set_ne _ _ hn'.symm,a1];rw[Tr.set_comm _ _ _ hn,Tr.set_comm _ _ _ hn']
  |st id1 off1 l1=>
   have k1:=c1 (.inl ⟨_,_,_,rfl⟩);simp only[fit]at e1
   split at e1
   ·rename_i e cs hg
    cases e1
    cases f2 with
    |no=>cases e2;exact⟨hp,rfl,by simp only[fit,hg]⟩
    |new o2=>
     obtain⟨a2,rfl⟩:=fit_new e2;have hn:=ne2 w1 w2;rw[Tr.get_set_ne _ _ hn]at a2;refine⟨Tr.set n2 o2 hp,by simp only[fit,a2],?_⟩;simp only[fit,Tr.get_set_ne _ _ hn.symm,hg];rw[Tr.set_comm _ _ _ hn]
    |st id off l=>exact absurd ⟨k1,c2 (.inl ⟨_,_,_,rfl⟩)⟩ h33
    |mv id o2=>exact absurd ⟨k1,c2 (.inr ⟨_,_,rfl⟩)⟩ h33
   ·cases e1
  |mv id1 o1=>
   have k1:=c1 (.inr ⟨_,_,rfl⟩);obtain⟨a1,rfl⟩:=fit_mv e1
   cases f2 with
   |no=>cases e2;exact⟨hp,rfl,e1⟩
   |new o2=>
    obtain⟨a2,rfl⟩:=fit_new e2;have hn:=ne w1.1 w2;have hn':=ne w1.2 w2;rw[Tr.get_set_ne _ _ hn,Tr.get_set_ne _ _ hn']at a2;refine⟨Tr.set n2 o2 hp,by simp only[fit,a2],?_⟩;simp only[fit,Tr.get_set_ne _ _ hn.symm,a1];rw[Tr.set_comm _ _ hp hn',Tr.set_comm _ _ _ hn]
   |st id off l=>exact absurd ⟨k1,c2 (.inl ⟨_,_,_,rfl⟩)⟩ h33
   |mv id o2=>exact absurd ⟨k1,c2 (.inr ⟨_,_,rfl⟩)⟩ h33
 obtain⟨h1',q1,q2⟩:=hex;have ag2:∀a∈foot n1 x tm,agree hp h1' a:=fun a ha=>fit_agree hy' q1 (fun b hb=>clash_symm (hc a ha b hb))
 exact⟨h1',hy',q1,by rw[←rd_agree ag2];exact hx,q2⟩
end
end Go.Proofs.YtiahijhpjloijaaGreat.V

namespace Go.Proofs.YtiahijhpjloijaaGreat.V
open Go Go.RowKit
theorem sameC_spec {x y:C} (h:sameC x y=true):x=y:=by
 unfold sameC at h
 split at h
 ·simp only[brec']at h
  split at h
  ·rename_i hk
   rw[ieq_eq,decide_eq_true_iff]at h;rw[kn_inj hk,h]
  ·cases h
 ·rename_i a b;cases a<;>cases b<;>first|rfl|cases h
 ·rw[leq_eq,decide_eq_true_iff]at h;rw[h]
 ·rw[beq_iff]at h;rw[h]
 ·rfl
 ·rfl
 ·rfl
 ·rfl
 ·rfl
 ·simp only[brec']at h
  split at h
  ·rename_i h1
   split at h
   ·rename_i h2
    rw[beq_iff]at h h2;rw[Pos.same_spec.1 h1,h2,h]
   ·cases h
  ·cases h
 ·simp only[brec']at h
  split at h
  ·rename_i h1
   split at h
   ·rename_i h2
    split at h
    ·rename_i h3
     rw[beq_iff]at h h2 h3;rw[Pos.same_spec.1 h1,h2,h3,h]
    ·cases h
   ·cases h
  ·cases h
 ·simp only[brec']at h
  split at h
  ·rename_i h1
   rw[beq_iff]at h;rw[Pos.same_spec.1 h1,h]
  ·cases h
 ·simp only[brec']at h
  split at h
  ·rename_i h1
   split at h
   ·rename_i h2
    rw[beq_iff]at h1 h2;rw[leq_eq,decide_eq_true_iff]at h;rw[h1,h2,h]
   ·cases h
  ·cases h
 ·simp only[brec']at h
  split at h
  ·rename_i h1
   split at h
   ·rename_i h2
    split at h
    ·rename_i h3
     rw[beq_iff]at h1 h2 h;rw[leq_eq,decide_eq_true_iff]at h3;rw[h1,h2,h3,h]
    ·cases h
   ·cases h
  ·cases h
 ·cases h
theorem sameL_cons (x y:C) (l m:List C):sameL (x::l) (y::m)=if sameC x y=true then sameL l m else false:=by
 show(Bool.rec false (sameL l m) (sameC x y):Bool)=_;rw[brec']
theorem sameL_spec:∀{l m:List C},sameL l m=true→l=m
 |[],[],_=>rfl
 |[],_::_,h=>by cases h
 |_::_,[],h=>by cases h
 |x::l,y::m,h=>by
  rw[sameL_cons]at h
  split at h
  ·rename_i hc;rw[sameC_spec hc,sameL_spec h]
  ·cases h
theorem leaves_agree {a b:Tr Ob} {x:Acc} (h:leaves a b x=true) (hx:x.1=false):agree a b x:=by
 obtain⟨w,q,r⟩:=x;have hx:w=false:=hx;subst hx
 cases r with
 |none=>
  simp only[leaves]at h
  split at h
  ·rename_i e l f m h1 h2
   rw[brec']at h
   split at h
   ·rename_i he
    rw[beq_iff]at he;have:=sameL_spec h;show Tr.get q a=Tr.get q b;rw[h1,h2,he,this]
   ·cases h
  ·rename_i h1 h2;show Tr.get q a=Tr.get q b;rw[h1,h2]
  ·cases h
 |some ok=>
  obtain⟨o,k⟩:=ok;simp only[leaves]at h
  split at h
  ·rename_i e l f m h1 h2
   rw[brec']at h
   split at h
   ·rename_i he
    rw[brec']at h
    split at h
    ·rename_i hl
     rw[beq_iff]at he;rw[beq_iff,len_eq,len_eq]at hl;have:=sameL_spec h;rw[take_eq,drop_eq,take_eq,drop_eq]at this;subst he;exact .inr ⟨e,l,m,h1,h2,hl,this⟩
    ·cases h
   ·cases h
  ·rename_i h1 h2;exact .inl (by rw[h1,h2])
  ·cases h
inductive FtLe:Ft→Ft→Prop where
 |acc (l:List Acc):FtLe (.acc l) (.acc l)
 |call {a b a' b':Tr Ob} (h:∀x,leaves a b x=true→leaves a' b' x=true):FtLe (.call a b) (.call a' b')
theorem FtLe.refl (f:Ft):FtLe f f:=by cases f with
 |acc l=>exact .acc l
 |call a b=>exact .call fun _ h=>h
theorem FtLe.trans {f g h:Ft} (h1:FtLe f g) (h2:FtLe g h):FtLe f h:=by
 cases h1 with
 |acc l=>exact h2
 |call k=>cases h2 with
  |call k'=>exact .call fun x hx=>k' x (k x hx)
theorem clashes_mono {f f' g g':Ft} (h1:FtLe f f') (h2:FtLe g g') (h:clashes f g=false):clashes f' g'=false:=by
 cases h1 with
 |acc l=>cases h2 with
  |acc m=>exact h
  |call k=>
   have:=all_true (bnot h);show(Bool.rec true false (all _ _):Bool)=false;rw[all_of fun x hx=>k x (this x hx)]
 |call k=>cases h2 with
  |acc m=>
   have:=all_true (bnot h);show(Bool.rec true false (all _ _):Bool)=false;rw[all_of fun x hx=>k x (this x hx)]
  |call k'=>cases h
section
variable{P:Program} {tm:Tr D} {hp h1 h2:Tr Ob}
theorem foot_reads {nid:Pos} {i:I} (h:cls i≤1):∀x∈foot nid i tm,x.1=false:=by
 intro x hx;have hC:∀c,∀z∈accC false c,z.1=false:=by
  intro c z hz
  cases c<;>simp[accC]at hz
  all_goals subst hz;rfl
 cases i<;>simp only[cls]at h<;>try(exfalso;omega)
 all_goals simp only[foot]at hx
 case ld k ag y=>
  split at hx
  ·simp at hx;subst hx;rfl
  ·cases hx
 case b2s y=>
  unfold accY at hx
  split at hx
  ·exact hC _ x hx
  ·cases hx
 all_goals cases hx
def more (a b:Tr Ob):Prop:=∀q o,Tr.get q a=some o→Tr.get q b=some o
theorem objc_mono {a b:Tr Ob} (h:more a b) {q:Pos} {cs:List C} (ho:objc a q=some cs):objc b q=some cs:=by
 obtain⟨e,hg⟩:=objc_eq ho;exact objc_some (h q _ hg)
theorem elems_mono {a b:Tr Ob} (h:more a b) {c:C} {r:Nat×Nat×List C} (he:elems a c=some r):elems b c=some r:=by
 cases c<;>simp only[elems]at he⊢ <;>try exact he
 case own id k n=>
  split at he
  ·rename_i cs ho;rw[objc_mono h ho];exact he
  ·cases he
 case sl id k o n=>
  split at he
  ·rename_i cs ho;rw[objc_mono h ho];exact he
  ·cases he
theorem grow_mono {a b:Tr Ob} (h:more a b) {nid:Pos} {e k b' m:Nat} {c:C} {cs:List C} {r:D×Ef} (hg:grow nid e k b' c m cs a=some r):grow nid e k b' c m cs b=some r:=by
 cases c<;>simp only[grow]at hg⊢ <;>try exact hg
 case own id j n=>
  split at hg
  ·rename_i e' old ho;rw[h id _ ho];exact hg
  ·cases hg
theorem rd_mono {a b:Tr Ob} (h:more a b) {nid:Pos} {i:I} {r:D×Ef} (hr:rd P nid i tm a=some r):rd P nid i tm b=some r:=by
 cases i<;>simp only[rd]at hr⊢ <;>try exact hr
 case ld k ag x=>
  split at hr
  ·rename_i id off hc
   split at hr
   ·rename_i cs ho;rw[objc_mono h ho];exact hr
   ·cases hr
  ·exact hr
  ·cases hr
 case st k x y=>
  split at hr
  ·rename_i id off hc
   split at hr
   ·rename_i cs ho;rw[objc_mono h ho];exact hr
   ·cases hr
  ·cases hr
 case len s x=>cases s<;>exact hr
 case ap e k b' x y=>
  split at hr
  ·rename_i cx cy hx hy
   split at hr
   ·rename_i k' m cs he
    rw[elems_mono h he];simp only[brec']at hr⊢
    split at hr
    ·rename_i hm;rw[if_pos hm];exact grow_mono h hr
    ·cases hr
   ·cases hr
  ·cases hr
 case aps e b' x y=>
  split at hr
  ·exact grow_mono h hr
  ·cases hr
 case apz e k b' zs x y=>
  split at hr
  ·rw[brec']at hr⊢
   split at hr
   ·rename_i hm;rw[if_pos hm];exact grow_mono h hr
   ·cases hr
  ·cases hr
 case b2s x=>
  split at hr
  ·rename_i c hx
   split at hr
   ·rename_i m cs he;rw[elems_mono h he];exact hr
   ·cases hr
  ·cases hr
theorem more_set {id:Pos} {o:Ob} (h:Tr.get id hp=none):more hp (Tr.set id o hp):=by
 intro q ob hq
 by_cases e:id=q
 ·subst e;rw[h]at hq;cases hq
 ·rw[Tr.get_set_ne _ _ e];exact hq
theorem fit_keeps {nid:Pos} {f:Ef} {hp':Tr Ob} (hf:fit nid f hp=some hp'):∀id,Tr.get id hp≠none→Tr.get id hp'≠none:=by
 intro id hid;have key:∀(q:Pos) (o:Ob) (g:Tr Ob),Tr.get id g≠none→Tr.get id (Tr.set q o g)≠none:=by
  intro q o g hg
  by_cases e:q=id
  ·subst e;rw[Tr.get_set_eq];intro h;cases h
  ·rw[Tr.get_set_ne _ _ e];exact hg
 cases f with
 |no=>cases hf;exact hid
 |new o=>obtain⟨_,rfl⟩:=fit_new hf;exact key _ _ _ hid
 |mv q o=>obtain⟨_,rfl⟩:=fit_mv hf;exact key _ _ _ (key _ _ _ hid)
 |st q off l=>
  simp only[fit]at hf
  split at hf
  ·cases hf;exact key _ _ _ hid
  ·cases hf
theorem fit_frame {nid:Pos} {f:Ef} {hp':Tr Ob} (hf:fit nid f hp=some hp') {id:Pos} (o:Ob) (hn:Tr.get id hp'=none):fit nid f (Tr.set id o hp)=some (Tr.set id o hp'):=by
 cases f with
 |no=>cases hf;rfl
 |new ob=>
  obtain⟨h0,rfl⟩:=fit_new hf;have hne:id≠nid:=fun e=>by subst e;rw[Tr.get_set_eq]at hn;cases hn
  simp only[fit,Tr.get_set_ne _ _ hne,h0];rw[Tr.set_comm _ _ _ hne]
 |mv q ob=>
  obtain⟨h0,rfl⟩:=fit_mv hf;have hne:id≠nid:=fun e=>by subst e;rw[Tr.get_set_eq]at hn;cases hn
  rw[Tr.get_set_ne _ _ (Ne.symm hne)]at hn;have hne':id≠q:=fun e=>by subst e;rw[Tr.get_set_eq]at hn;cases hn
  simp only[fit,Tr.get_set_ne _ _ hne,h0];rw[Tr.set_comm _ _ _ hne,Tr.set_comm _ _ _ hne']
 |st q off l=>
  simp only[fit]at hf
  split at hf
  ·rename_i e cs hg
   cases hf
   have hne:id≠q:=fun e=>by subst e;rw[Tr.get_set_eq]at hn;cases hn
   simp only[fit,Tr.get_set_ne _ _ hne,hg];rw[Tr.set_comm _ _ _ hne]
  ·cases hf
def Fr (O:Oracle):Prop:=∀f ds hp nx d hp' nx',O f ds hp nx=some (d,hp',nx')→
 (∀id,Tr.get id hp≠none→Tr.get id hp'≠none)∧(∀id e cs,Tr.get id hp'=none→O f ds (Tr.set id (.ob e cs) hp) nx=some (d,Tr.set id (.ob e cs) hp',nx'))
theorem none_of {id:Pos} {a b:Tr Ob} (h:∀id,Tr.get id a≠none→Tr.get id b≠none) (hb:Tr.get id b=none):Tr.get id a=none:=by
 cases ha:Tr.get id a with
 |none=>rfl
 |some o=>exact absurd hb (h id (by rw[ha];intro h;cases h))
theorem stepD_frame {O:Oracle} (hO:Fr O) {base:Pos} {x:Ins} {nx nx':Pos} {d:D} {hp':Tr Ob} (h:stepD P O base x tm hp nx=some (d,hp',nx')):
 (∀id,Tr.get id hp≠none→Tr.get id hp'≠none)∧(∀id e cs,Tr.get id hp'=none→stepD P O base x tm (Tr.set id (.ob e cs) hp) nx=some (d,Tr.set id (.ob e cs) hp',nx')):=by
 unfold stepD at h
 split at h
 ·rename_i hg;cases h;exact⟨fun _ h=>h,fun id e cs _=>by unfold stepD;simp only[hg]⟩
 ·cases h
 ·rename_i hg
  split at h
  ·rename_i f as hxo
   split at h
   ·rename_i ds hds
    obtain⟨k1,k2⟩:=hO f ds hp nx d hp' nx' h;exact⟨k1,fun id e cs hn=>by unfold stepD;simp only[hg,hxo,hds];exact k2 id e cs hn⟩
   ·cases h
  ·rename_i hxo
   split at h
   ·rename_i d0 f hr
    split at h
    ·rename_i hp0 hf
     cases h
     have keep:=fit_keeps hf;refine⟨keep,fun id e cs hn=>?_⟩;generalize Ob.ob e cs=o;have h0:=none_of keep hn;have hr':=rd_mono (more_set (o:=o) h0) hr;have hf':=fit_frame hf o hn;unfold stepD;simp only[hg]
     cases hxo':x.op
     case call f as=>exact absurd hxo' (hxo f as)
     all_goals
      rw[hxo']at hr';simp only[hr',hf']
    ·cases h
   ·cases h
end
end Go.Proofs.YtiahijhpjloijaaGreat.V

namespace Go.Proofs.YtiahijhpjloijaaGreat.V
open Go Go.RowKit
def allowed (a b:Nat):Bool:=(Nat.blt a 3||Nat.blt b 3)&& !(Nat.beq a 2&&Nat.beq b 4)
theorem sameC_refl (c:C):sameC c c=true:=by
 have hp:∀p:Pos,Pos.same p p=true:=fun p=>Pos.same_spec.2 rfl
 cases c
 case int k n=>show(Bool.rec false (ieq n n) (Nat.beq (kn k) (kn k)):Bool)=true;rw[Nat.beq_refl,ieq_eq];simp
 case bool b=>cases b<;>rfl
 case str l=>show leq l l=true;rw[leq_eq];simp
 case flt b=>exact Nat.beq_refl b
 case own p k n=>show(Bool.rec false (Bool.rec false (Nat.beq n n) (Nat.beq k k):Bool) (Pos.same p p):Bool)=true;rw[hp,Nat.beq_refl,Nat.beq_refl]
 case sl p k o n=>show(Bool.rec false (Bool.rec false (Bool.rec false (Nat.beq n n) (Nat.beq o o):Bool) (Nat.beq k k):Bool) (Pos.same p p):Bool)=true;rw[hp,Nat.beq_refl,Nat.beq_refl,Nat.beq_refl]
 case loc p o=>show(Bool.rec false (Nat.beq o o) (Pos.same p p):Bool)=true;rw[hp,Nat.beq_refl]
 case fs b o l=>show(Bool.rec false (Bool.rec false (leq l l) (Nat.beq o o):Bool) (Nat.beq b b):Bool)=true;rw[leq_eq,Nat.beq_refl,Nat.beq_refl];simp
 case fp b o l j=>show(Bool.rec false (Bool.rec false (Bool.rec false (Nat.beq j j) (leq l l):Bool) (Nat.beq o o):Bool) (Nat.beq b b):Bool)=true;rw[leq_eq,Nat.beq_refl,Nat.beq_refl,Nat.beq_refl];simp
 all_goals rfl
theorem sameL_refl:∀l:List C,sameL l l=true
 |[]=>rfl
 |x::l=>by rw[sameL_cons,if_pos (sameC_refl x)];exact sameL_refl l
theorem leaves_set {a b:Tr Ob} {id:Pos} {e:Nat} {cs:List C} (ha:Tr.get id a=none) (hb:Tr.get id b=none) {x:Acc} (h:leaves a b x=true):leaves (Tr.set id (.ob e cs) a) (Tr.set id (.ob e cs) b) x=true:=by
 obtain⟨w,q,r⟩:=x
 cases w with
 |true=>rfl
 |false=>
  by_cases e':id=q
  ·subst e'
   cases r with
   |none=>simp only[leaves,Tr.get_set_eq,Nat.beq_refl];exact sameL_refl _
   |some ok=>obtain⟨o,k⟩:=ok;simp only[leaves,Tr.get_set_eq,Nat.beq_refl];exact sameL_refl _
  ·cases r with
   |none=>simp only[leaves,Tr.get_set_ne _ _ e']at h⊢;exact h
   |some ok=>obtain⟨o,k⟩:=ok;simp only[leaves,Tr.get_set_ne _ _ e']at h⊢;exact h
section
variable{P:Program} {tm:Tr D} {hp h1 h2:Tr Ob}
theorem stepD_local {O:Oracle} {base:Pos} {x:Ins} {nx nx':Pos} {d:D} {hp':Tr Ob} (hg:guard x.gd tm=.run) (hx:∀f as,x.op≠.call f as):
 stepD P O base x tm hp nx=some (d,hp',nx')↔∃f,rd P (Pos.plus x.r base) x.op tm hp=some (d,f)∧fit (Pos.plus x.r base) f hp=some hp'∧nx'=nx:=by
 have key:stepD P O base x tm hp nx=(match rd P (Pos.plus x.r base) x.op tm hp with
  |some (d,f)=>(match fit (Pos.plus x.r base) f hp with|some hp'=>some (d,hp',nx)|none=>none)
  |none=>none):=by
  unfold stepD;simp only[hg]
  cases hxo:x.op
  case call f as=>exact absurd hxo (hx f as)
  all_goals rfl
 rw[key];constructor
 ·intro h
  split at h
  ·rename_i d0 f hr
   split at h
   ·rename_i hp0 hf
    cases h
    exact⟨f,hr,hf,rfl⟩
   ·cases h
  ·cases h
 ·rintro ⟨f,hr,hf,rfl⟩
  simp only[hr,hf]
theorem ftD_local {base:Pos} {x:Ins} {a b:Tr Ob} (hg:guard x.gd tm=.run) (hx:∀f as,x.op≠.call f as):ftD base x tm a b=.acc (foot (Pos.plus x.r base) x.op tm):=by
 unfold ftD;simp only[hg]
theorem ftD_call {base:Pos} {x:Ins} {a b:Tr Ob} {f:Nat} {as:List A} (hg:guard x.gd tm=.run) (hx:x.op=.call f as):ftD base x tm a b=.call a b:=by
 unfold ftD;simp only[hg,hx]
theorem isCall (i:I):(∃f as,i=.call f as)∨(∀f as,i≠.call f as):=by
 cases i
 case call f as=>exact .inl ⟨f,as,rfl⟩
 all_goals exact .inr fun _ _ h=>by cases h
theorem swapD {O:Oracle} (hO:Fr O) {base:Pos} {x y:Ins} {nx nx1 nx2:Pos} {d1 d2:D} (hal:allowed (cls x.op) (cls y.op)=true)
 (hx:stepD P O base x tm hp nx=some (d1,h1,nx1)) (hy:stepD P O base y tm h1 nx1=some (d2,h2,nx2))
 (hc:clashes (ftD base x tm hp h1) (ftD base y tm h1 h2)=false):
 ∃h1' nx1',stepD P O base y tm hp nx=some (d2,h1',nx1')∧stepD P O base x tm h1' nx1'=some (d1,h2,nx2)∧ftD base y tm hp h1'=ftD base y tm h1 h2∧FtLe (ftD base x tm hp h1) (ftD base x tm h1' h2):=by
 cases gx:guard x.gd tm with
 |bad=>unfold stepD at hx;simp only[gx]at hx;cases hx
 |skip=>
  have hx':=hx;unfold stepD at hx';simp only[gx]at hx'
  cases hx'
  refine⟨h2,nx2,hy,?_,rfl,?_⟩
  ·unfold stepD;simp only[gx]
  ·have e:∀a b,ftD base x tm a b=.acc []:=fun a b=>by unfold ftD;simp only[gx]
   rw[e,e];exact .refl _
 |run=>cases gy:guard y.gd tm with
  |bad=>unfold stepD at hy;simp only[gy]at hy;cases hy
  |skip=>
   have hy':=hy;unfold stepD at hy';simp only[gy]at hy'
   cases hy'
   refine⟨hp,nx,?_,hx,?_,.refl _⟩
   ·unfold stepD;simp only[gy]
   ·have e:∀a b,ftD base y tm a b=.acc []:=fun a b=>by unfold ftD;simp only[gy]
    rw[e,e]
  |run=>
   rcases isCall x.op with⟨f,as,hxo⟩|hxo
   ·rcases isCall y.op with⟨g,bs,hyo⟩|hyo
    ·rw[hxo,hyo]at hal;exact absurd hal (show¬(allowed 4 4=true) by decide)
    ·
     have cy:cls y.op<3:=by
      rw[hxo]at hal;have h4:cls (.call f as)=4:=rfl;rw[h4]at hal;simp only[allowed,Bool.and_eq_true,Bool.or_eq_true,blt_iff]at hal;omega
     rw[ftD_call gx hxo,ftD_local gy hyo]at hc;have hlv:=all_true (bnot hc);obtain⟨f2,hr2,hf2,rfl⟩:=(stepD_local gy hyo).1 hy;obtain⟨keep,frame⟩:=stepD_frame hO hx;obtain⟨w2,c1,c2,_⟩:=rd_ef hr2
     by_cases hc1:cls y.op≤1
     ·have hno:=c1 hc1
      subst hno
      cases hf2
      have ag:∀z∈foot (Pos.plus y.r base) y.op tm,agree hp h1 z:=fun z hz=>leaves_agree (hlv z hz) (foot_reads hc1 z hz)
      refine⟨hp,nx,(stepD_local gy hyo).2 ⟨.no,by rw[rd_agree ag];exact hr2,rfl,rfl⟩,hx,by rw[ftD_local gy hyo,ftD_local gy hyo],.refl _⟩
     ·have hc2:cls y.op=2:=by omega
      obtain⟨e,l,hf⟩:=c2 hc2;subst hf;obtain⟨a2,rfl⟩:=fit_new hf2;have a1:=none_of keep a2;have hr2':rd P (Pos.plus y.r base) y.op tm hp=some (d2,.new (.ob e l)):=by
       rw[←hr2];refine rd_agree fun z hz=>?_
       have hz':z=(true,Pos.plus y.r base,none):=by
        revert hz
        cases hyo':y.op<;>rw[hyo']at hc2<;>simp[cls]at hc2<;>simp[foot]
       subst hz';show Tr.get _ hp=Tr.get _ h1;rw[a1,a2]
      refine⟨Tr.set (Pos.plus y.r base) (.ob e l) hp,nx,(stepD_local gy hyo).2 ⟨_,hr2',by simp only[fit,a1],rfl⟩,frame _ _ _ a2,by rw[ftD_local gy hyo,ftD_local gy hyo],?_⟩;rw[ftD_call gx hxo,ftD_call gx hxo];exact .call fun z hz=>leaves_set a1 a2 hz
   ·obtain⟨f1,hr1,hf1,rfl⟩:=(stepD_local gx hxo).1 hx
    rcases isCall y.op with⟨g,bs,hyo⟩|hyo
    ·
     have cx:cls x.op≤1:=by
      rw[hyo]at hal;have h4:cls (.call g bs)=4:=rfl;rw[h4]at hal;simp only[allowed,Bool.and_eq_true,Bool.or_eq_true,blt_iff,Bool.not_eq_true',Bool.and_eq_false_iff]at hal;have h2:cls x.op≠2:=fun h=>by
       rcases hal.2 with h'|h'
       ·rw[h]at h';cases h'
       ·cases h'
      omega
     rw[ftD_local gx hxo,ftD_call gy hyo]at hc;have hlv:=all_true (bnot hc);have hno:=(rd_ef hr1).2.1 cx;subst hno
     cases hf1
     have ag:∀z∈foot (Pos.plus x.r base) x.op tm,agree hp h2 z:=fun z hz=>leaves_agree (hlv z hz) (foot_reads cx z hz)
     refine⟨h2,nx2,hy,(stepD_local gx hxo).2 ⟨.no,by rw[←rd_agree ag];exact hr1,rfl,rfl⟩,rfl,by rw[ftD_local gx hxo,ftD_local gx hxo];exact .refl _⟩
    ·obtain⟨f2,hr2,hf2,rfl⟩:=(stepD_local gy hyo).1 hy
     rw[ftD_local gx hxo,ftD_local gy hyo]at hc;have h33:¬(cls x.op=3∧cls y.op=3):=fun⟨e1,e2⟩=>by rw[e1,e2]at hal;exact absurd hal (by decide)
     obtain⟨h1',q1,q2,q3,q4⟩:=swapL hr1 hf1 hr2 hf2 (fun a ha b hb=>any_false (any_false hc a ha) b hb) h33;exact⟨h1',nx2,(stepD_local gy hyo).2 ⟨f2,q1,q2,rfl⟩,(stepD_local gx hxo).2 ⟨f1,q3,q4,rfl⟩,by rw[ftD_local gy hyo,ftD_local gy hyo],by rw[ftD_local gx hxo,ftD_local gx hxo];exact .refl _⟩
end
end Go.Proofs.YtiahijhpjloijaaGreat.V

namespace Go.Proofs.YtiahijhpjloijaaGreat.V
open Go Go.RowKit
noncomputable def noDst (p:Option Pos) (l:List Pos):Bool:=match p with|none=>true|some p=>all (fun q=> !(Pos.same p q)) l
noncomputable def apartI (x y:Ins):Bool:=
 noDst x.dst (reads y)&&(noDst y.dst (reads x)&&(match x.dst,y.dst with|some p,some q=> !(Pos.same p q)|_,_=>true))
noncomputable def pairOk (x y:Ins):Bool:=apartI x y&&allowed (cls x.op) (cls y.op)
section
variable{P:Program} {O:Oracle} {base:Pos}
theorem noDst_get {p:Option Pos} {l:List Pos} (h:noDst p l=true) (d:D) (tm:Tr D):∀q∈l,Tr.get q (put p d tm)=Tr.get q tm:=by
 intro q hq
 cases p with
 |none=>rfl
 |some p=>
  have:=all_true h q hq;have hne:p≠q:=fun e=>by rw[Pos.same_spec.2 e]at this;cases this
  exact Tr.get_set_ne _ _ hne
theorem put_comm {x y:Ins} (h:apartI x y=true) (d1 d2:D) (tm:Tr D):put y.dst d2 (put x.dst d1 tm)=put x.dst d1 (put y.dst d2 tm):=by
 simp only[apartI,Bool.and_eq_true]at h;have h3:=h.2.2
 cases hx:x.dst with
 |none=>rfl
 |some p=>cases hy:y.dst with
  |none=>rfl
  |some q=>
   rw[hx,hy]at h3;have h3:(!(Pos.same p q))=true:=h3;have hne:q≠p:=fun e=>by rw[Pos.same_spec.2 e.symm]at h3;cases h3
   exact Tr.set_comm _ _ _ hne
theorem swap1 (hO:Fr O) {x y:Ins} {s s1 s2:St} (hp:pairOk x y=true) (e1:step1 P O base x s=some s1) (e2:step1 P O base y s1=some s2)
 (hc:clashes (ft base x s s1) (ft base y s1 s2)=false):
 ∃s1',step1 P O base y s=some s1'∧step1 P O base x s1'=some s2∧ft base y s s1'=ft base y s1 s2∧FtLe (ft base x s s1) (ft base x s1' s2):=by
 simp only[pairOk,Bool.and_eq_true]at hp;obtain⟨hap,hal⟩:=hp;have hap':=hap;simp only[apartI,Bool.and_eq_true]at hap';rw[step1_eq]at e1
 split at e1
 case h_2=>cases e1
 rename_i d1 hp1 nx1 hx
 cases e1
 rw[step1_eq]at e2
 split at e2
 case h_2=>cases e2
 rename_i d2 hp2 nx2 hy
 cases e2
 simp only[]at hy;have ry:∀q∈reads y,Tr.get q (put x.dst d1 s.tm)=Tr.get q s.tm:=noDst_get hap'.1 d1 s.tm;have rx:∀q∈reads x,Tr.get q (put y.dst d2 s.tm)=Tr.get q s.tm:=noDst_get hap'.2.1 d2 s.tm;rw[stepD_tm ry]at hy;simp only[ft_eq]at hc⊢;rw[ftD_tm ry]at hc;obtain⟨h1',nx1',q1,q2,q3,q4⟩:=swapD hO hal hx hy hc;refine⟨{tm:=put y.dst d2 s.tm,hp:=h1',nx:=nx1'},?_,?_,?_,?_⟩
 ·rw[step1_eq,q1]
 ·rw[step1_eq]
  simp only[];rw[stepD_tm rx,q2];simp only[put_comm hap d1 d2 s.tm]
 ·simp only[]
  rw[q3,ftD_tm ry]
 ·simp only[]
  rw[ftD_tm rx];exact q4
inductive Run (P:Program) (O:Oracle) (base:Pos):List ((Nat×Ins)×Ft)→St→St→Prop where
 |nil (s:St):Run P O base [] s s
 |cons {z:Nat×Ins} {l:List ((Nat×Ins)×Ft)} {s s' t:St} (h:step1 P O base z.2 s=some s') (r:Run P O base l s' t):Run P O base ((z,ft base z.2 s s')::l) s t
structure Le (p q:(Nat×Ins)×Ft):Prop where
 z:p.1=q.1
 f:FtLe p.2 q.2
theorem front (hO:Fr O) {z:Nat×Ins} {f:Ft} {post:List ((Nat×Ins)×Ft)}:∀{pre:List ((Nat×Ins)×Ft)} {s t:St},Run P O base (pre++(z,f)::post) s t→
 (∀p∈pre,pairOk p.1.2 z.2=true∧clashes p.2 f=false)→∃s1 pre',step1 P O base z.2 s=some s1∧ft base z.2 s s1=f∧Run P O base (pre'++post) s1 t∧Al Le pre pre'
 |[],s,t,hr,_=>by
  cases hr with
  |cons h r=>exact⟨_,[],h,rfl,r,.nil⟩
 |p::pre,s,t,hr,hp=>by
  cases hr with
  |cons h r=>
   rename_i y s';obtain⟨s1,pre',h1,h2,h3,h4⟩:=front hO r (fun q hq=>hp q (List.mem_cons_of_mem _ hq));obtain⟨hok,hcl⟩:=hp _ List.mem_cons_self;rw[←h2]at hcl;obtain⟨u,q1,q2,q3,q4⟩:=swap1 hO hok h h1 hcl;refine⟨u,(y,ft base y.2 u s1)::pre',q1,q3.trans h2,.cons q2 h3,.cons ⟨rfl,q4⟩ h4⟩
def PR (free:Nat→Nat→Bool) (p q:(Nat×Ins)×Ft):Prop:=
 (free p.1.1 q.1.1=true→pairOk p.1.2 q.1.2=true∧clashes p.2 q.2=false)∧(q.1.1<p.1.1→free p.1.1 q.1.1=true)
theorem PR.le {free:Nat→Nat→Bool} {p q p' q':(Nat×Ins)×Ft} (h:PR free p q) (hp:Le p p') (hq:Le q q'):PR free p' q':=by
 unfold PR at*;rw[←hp.z,←hq.z];exact⟨fun hf=>⟨(h.1 hf).1,clashes_mono hp.f hq.f (h.1 hf).2⟩,h.2⟩
theorem Le.refl (p:(Nat×Ins)×Ft):Le p p:=⟨rfl,.refl _⟩
theorem Al.refl_le:∀l:List ((Nat×Ins)×Ft),Al Le l l
 |[]=>.nil
 |p::l=>.cons (Le.refl p) (Al.refl_le l)
theorem Al.mem_r {l l':List ((Nat×Ins)×Ft)} (h:Al Le l l'):∀q∈l',∃p∈l,Le p q:=by
 induction h with
 |nil=>intro q hq;cases hq
 |cons hr _ ih=>
  intro q hq
  cases hq with
  |head=>exact⟨_,List.mem_cons_self,hr⟩
  |tail _ hq=>obtain⟨p,hp,hl⟩:=ih q hq;exact⟨p,List.mem_cons_of_mem _ hp,hl⟩
theorem pairs_le {free:Nat→Nat→Bool} {l l':List ((Nat×Ins)×Ft)} (h:Al Le l l') (hp:l.Pairwise (PR free)):l'.Pairwise (PR free):=by
 induction h with
 |nil=>exact .nil
 |cons hr ht ih=>
  rw[List.pairwise_cons]at hp⊢;refine⟨fun q hq=>?_,ih hp.2⟩;obtain⟨p,hpm,hl⟩:=Al.mem_r ht q hq;exact(hp.1 p hpm).le hr hl
theorem idx_le {l l':List ((Nat×Ins)×Ft)} (h:Al Le l l'):l'.map (·.1)=l.map (·.1):=by
 induction h with
 |nil=>rfl
 |cons hr _ ih=>simp only[List.map_cons,ih,hr.z]
structure Drawn (P:Program) (n:Nat) (ops:Array Oper) (free:Nat→Nat→Bool) (zs:List (Nat×Ins)):Prop where
 fit:∀z∈zs,∃o,ops[z.1]?=some o∧fitIns P n ops z.2 o=true
 back:∀i o,ops[i]?=some o→∀e∈o.after,Region.binds .any e=true→e.on<i
 via:∀i o,ops[i]?=some o→∀j,j<i→free j i=false→∃e∈o.after,Region.binds .any e=true∧(e.on=j∨(j<e.on∧free j e.on=false))
theorem any_ok (hG:Good P O) (hO:Fr O) {n:Nat} {ops:Array Oper} {free:Nat→Nat→Bool} {zs:List (Nat×Ins)} (hD:Drawn P n ops free zs) {Q:Exit→Act→World→Prop} {sF:St}:
 ∀(fuel:Nat) (listed:Array Bool) (L:List ((Nat×Ins)×Ft)) (s:St) (β:Blk) (a:Act) (w:World),L.length=fuel→Run P O base L s sF→L.Pairwise (PR free)→(∀p∈L,p.1∈zs)→
  (L.map (·.1.1)).Nodup→listed.size=ops.size→(∀i,i<ops.size→(listed.getD i true=false↔i∈L.map (·.1.1)))→
  (∀j i,j<i→i<ops.size→listed.getD i true=true→free j i=false→listed.getD j true=true)→
  R n β s a w→(∀β' a' w',R n β' sF a' w'→Mv β w β' w'→Q .normal a' w')→wpAny P .any ops Q fuel listed a w:=by
 intro fuel
 induction fuel with
 |zero=>
  intro listed L s β a w hlen hrun hpw hz hnd hsz hidx hcl hR hQ;have hnil:L=[]:=List.eq_nil_of_length_eq_zero hlen;subst hnil
  cases hrun
  refine⟨?_,hQ β a w hR (Mv.refl _ _)⟩
  cases hr:Region.ready .any ops listed with
  |nil=>rfl
  |cons i rs=>
   have hi:i∈Region.ready .any ops listed:=by rw[hr];exact List.mem_cons_self
   obtain⟨h0,o,ho,_⟩:=mem_ready.1 hi;have:=(hidx i (Array.getElem?_eq_some_iff.1 ho).1).1 h0
   cases this
 |succ fuel ih=>
  intro listed L s β a w hlen hrun hpw hz hnd hsz hidx hcl hR hQ;have gd:∀i,i<ops.size→listed.getD i false=listed.getD i true:=by
   intro i hi;simp[Array.getD,hsz,hi]
  have via_listed:∀i o,ops[i]?=some o→(∀e∈o.after,Region.binds .any e=true→listed.getD e.on false=true)→∀j,j<i→free j i=false→listed.getD j true=true:=by
   intro i o ho hall j hj hf;obtain⟨e,he,hb,hor⟩:=hD.via i o ho j hj hf;have hi:=(Array.getElem?_eq_some_iff.1 ho).1;have hon:=hD.back i o ho e he hb;have hle:=hall e he hb;rw[gd e.on (by omega)]at hle;rcases hor with rfl|⟨hlt,hf'⟩
   ·exact hle
   ·exact hcl j e.on hlt (by omega) hle hf'
  refine⟨fun hr=>?_,fun i hi=>?_⟩
  ·exfalso
   have hex:∃i,i<ops.size∧listed.getD i true=false:=by
    cases L with
    |nil=>cases hlen
    |cons p L=>
     obtain⟨o,ho,_⟩:=hD.fit p.1 (hz p List.mem_cons_self);have hi:=(Array.getElem?_eq_some_iff.1 ho).1;exact⟨p.1.1,hi,(hidx _ hi).2 (by simp)⟩
   have hmin:∀m i,i<m→i<ops.size→listed.getD i true=false→∃k,k<ops.size∧listed.getD k true=false∧∀j,j<k→listed.getD j true=true:=by
    intro m
    induction m with
    |zero=>intro i hi;omega
    |succ m ihm=>
     intro i hi hlt hu
     by_cases hall:∀j,j<i→listed.getD j true=true
     ·exact⟨i,hlt,hu,hall⟩
     ·have:∃j,j<i∧listed.getD j true=false:=by
       apply Classical.byContradiction;intro hno;apply hall;intro j hj
       cases hb:listed.getD j true with
       |true=>rfl
       |false=>exact absurd ⟨j,hj,hb⟩ hno
      obtain⟨j,hj,hb⟩:=this;exact ihm j (by omega) (by omega) hb
   obtain⟨i,hi,hu⟩:=hex;obtain⟨k,hk,hku,hall⟩:=hmin (i+1) i (by omega) hi hu;have hmem:k∈Region.ready .any ops listed:=by
    refine mem_ready.2 ⟨hku,ops[k],Array.getElem?_eq_getElem hk,fun e he hb=>?_⟩;have hon:=hD.back k _ (Array.getElem?_eq_getElem hk) e he hb;rw[gd e.on (by omega)];exact hall e.on hon
   rw[hr]at hmem
   cases hmem
  ·obtain⟨h0,o,ho,hall⟩:=mem_ready.1 hi
   have hilt:=(Array.getElem?_eq_some_iff.1 ho).1;have hmem:=(hidx i hilt).1 h0;obtain⟨p,hpL,hpi⟩:=List.mem_map.1 hmem;obtain⟨pre,post,hL⟩:=List.append_of_mem hpL;obtain⟨z,f⟩:=p;have hzi:z.1=i:=hpi;subst hL;have hpw':=List.pairwise_append.1 hpw;have hnd':(pre.map (·.1.1)++z.1::post.map (·.1.1)).Nodup:=by simpa using hnd
   have hndp:=List.nodup_append.1 hnd';have hpreu:∀q∈pre,listed.getD q.1.1 true=false∧q.1.1≠i:=by
    intro q hq;obtain⟨oq,hoq,_⟩:=hD.fit q.1 (hz q (List.mem_append_left _ hq));refine⟨(hidx _ (Array.getElem?_eq_some_iff.1 hoq).1).2 (List.mem_map.2 ⟨q,List.mem_append_left _ hq,rfl⟩),?_⟩;rw[←hzi];exact hndp.2.2 _ (List.mem_map.2 ⟨q,hq,rfl⟩) _ List.mem_cons_self
   have hpre:∀q∈pre,pairOk q.1.2 z.2=true∧clashes q.2 f=false:=by
    intro q hq;have hpr:=hpw'.2.2 q hq _ List.mem_cons_self;refine hpr.1 ?_;obtain⟨hu,hne⟩:=hpreu q hq;show free q.1.1 z.1=true;rw[hzi];rcases Nat.lt_or_ge q.1.1 i with hlt|hge
    ·cases hf:free q.1.1 i with
     |true=>rfl
     |false=>
      have:=via_listed i o ho hall q.1.1 hlt hf;rw[hu]at this;cases this
    ·have h2:=hpr.2
     have h3:z.1<q.1.1:=by omega
     have:=h2 h3
     rwa [hzi]at this
   obtain⟨s1,pre',hs1,_,hrun',hal⟩:=front hO hrun hpre;obtain⟨o',ho',hfit⟩:=hD.fit z (hz (z,f) (by simp));rw[hzi]at ho';have hoo:o'=o:=by rw[ho]at ho';exact(Option.some.inj ho').symm
   subst hoo;have hLe:Al Le (pre++post) (pre'++post):=Al.app hal (Al.refl_le post);have hmapLe:=idx_le hLe;have hmap1:(pre'++post).map (·.1.1)=(pre++post).map (·.1.1):=by
    have:=congrArg (List.map (·.1)) hmapLe
    simpa [List.map_map,Function.comp_def]using this
   refine step1_ok hG ho hfit hs1 hR (fun β' a' w' hR' hm=>?_);refine ih (listed.setIfInBounds i true) (pre'++post) s1 β' a' w' ?_ hrun' ?_ ?_ ?_ (by simpa using hsz) ?_ ?_ hR' (fun β'' a'' w'' hR'' hm'=>hQ β'' a'' w'' hR'' (hm.trans hm'))
   ·have:=congrArg List.length hmap1
    simp at this hlen⊢;omega
   ·refine pairs_le hLe ?_
    refine List.pairwise_append.2 ⟨hpw'.1,(List.pairwise_cons.1 hpw'.2.1).2,fun q hq r hr=>hpw'.2.2 q hq r (List.mem_cons_of_mem _ hr)⟩
   ·intro q hq
    obtain⟨r,hr,hl⟩:=Al.mem_r hLe q hq;rw[←hl.z];refine hz r ?_;rcases List.mem_append.1 hr with h|h
    ·exact List.mem_append_left _ h
    ·exact List.mem_append_right _ (List.mem_cons_of_mem _ h)
   ·rw[hmap1,List.map_append]
    refine List.nodup_append.2 ⟨hndp.1,(List.nodup_cons.1 hndp.2.1).2,fun x hx y hy=>hndp.2.2 x hx y (List.mem_cons_of_mem _ hy)⟩
   ·intro j hj
    rw[hmap1]
    by_cases hji:j=i
    ·subst hji
     rw[show(listed.setIfInBounds j true).getD j true=true from by simp[Array.getD,hsz,hj]];constructor
     ·intro h;cases h
     ·intro h
      exfalso;rw[List.map_append]at h;rcases List.mem_append.1 h with h|h
      ·exact hndp.2.2 _ h _ List.mem_cons_self hzi.symm
      ·exact(List.nodup_cons.1 hndp.2.1).1 (hzi▸h)
    ·rw[getD_set_ne true (Ne.symm hji),hidx j hj]
     simp only[List.map_append,List.map_cons,List.mem_append,List.mem_cons];constructor
     ·rintro (h|h|h)
      ·exact .inl h
      ·exact absurd (h.trans hzi) hji
      ·exact .inr h
     ·rintro (h|h)
      ·exact .inl h
      ·exact .inr (.inr h)
   ·intro j i' hj hi' hl hf
    by_cases hii:i'=i
    ·subst hii
     have:=via_listed i' o' ho hall j hj hf
     by_cases hji:j=i'
     ·omega
     ·rw[getD_set_ne true (Ne.symm hji)];exact this
    ·rw[getD_set_ne true (Ne.symm hii)]at hl
     have:=hcl j i' hj hi' hl hf
     by_cases hji:j=i
     ·subst hji;simp[Array.getD,hsz,hilt]
     ·rw[getD_set_ne true (Ne.symm hji)];exact this
end
end Go.Proofs.YtiahijhpjloijaaGreat.V

namespace Go.Proofs.YtiahijhpjloijaaGreat.V
open Go Go.RowKit
noncomputable def maskOf (l:List (Nat×Ins)) (i:Nat):Nat:=List.rec 0 (fun z _ ih=>Bool.rec ih z.2.fr (Nat.beq z.1 i)) l
noncomputable def freeL (l:List (Nat×Ins)) (j i:Nat):Bool:=Bool.rec (Nat.testBit (maskOf l j) i) (Nat.testBit (maskOf l i) j) (Nat.blt j i)
def dyn (a b:Nat):Bool:=Nat.blt 0 a&&(Nat.blt 0 b&&(Nat.blt 1 a||Nat.blt 1 b))
noncomputable def inL (p q:Nat) (l:List (Nat×Nat)):Bool:=any (fun z=>Nat.beq z.1 p&&Nat.beq z.2 q) l
noncomputable def pair1 (free:Nat→Nat→Bool) (chk:List (Nat×Nat)) (p q:Nat) (z y:Nat×Ins):Bool:=
 !(Nat.beq z.1 y.1)&&((!(free z.1 y.1)||(pairOk z.2 y.2&&(!(dyn (cls z.2.op) (cls y.2.op))||inL p q chk)))&&(!(Nat.blt y.1 z.1)||free z.1 y.1))
noncomputable def pairR (free:Nat→Nat→Bool) (chk:List (Nat×Nat)) (p:Nat) (z:Nat×Ins):Nat→List (Nat×Ins)→Bool
 |_,[]=>true
 |q,y::l=>pair1 free chk p q z y&&pairR free chk p z (q+1) l
noncomputable def pairsB (free:Nat→Nat→Bool) (chk:List (Nat×Nat)):Nat→List (Nat×Ins)→Bool
 |_,[]=>true
 |p,z::l=>pairR free chk p z (p+1) l&&pairsB free chk (p+1) l
noncomputable def viaB (free:Nat→Nat→Bool):Nat→List Oper→Bool
 |_,[]=>true
 |i,o::l=>(o.after.all (fun e=> !(Region.binds .any e)||Nat.blt e.on i)&&
    (List.range i).all (fun j=>free j i||o.after.any (fun e=>Region.binds .any e&&(Nat.beq e.on j||(Nat.blt j e.on&& !(free j e.on))))))&&viaB free (i+1) l
noncomputable def fitDr (P:Program) (n:Nat) (ops:Array Oper) (l:List (Nat×Ins)) (chk:List (Nat×Nat)):Bool:=
 l.all (fun z=>match ops[z.1]? with|some o=>fitIns P n ops z.2 o|none=>false)&&
 ((List.range ops.size).all (fun i=>l.any (fun z=>Nat.beq z.1 i))&&(viaB (freeL l) 0 ops.toList&&(pairsB (freeL l) chk 0 l&&Nat.beq l.length ops.size)))
section
variable{P:Program} {O:Oracle} {base:Pos}
theorem viaB_ok {free:Nat→Nat→Bool}:∀{l:List Oper} {k i:Nat} {o:Oper},viaB free k l=true→l[i]?=some o→
 (∀e∈o.after,Region.binds .any e=true→e.on<k+i)∧(∀j,j<k+i→free j (k+i)=false→∃e∈o.after,Region.binds .any e=true∧(e.on=j∨(j<e.on∧free j e.on=false)))
 |[],_,_,_,_,h=>by simp at h
 |o'::l,k,0,o,h,hi=>by
  simp only[List.getElem?_cons_zero,Option.some.injEq]at hi;subst hi;simp only[viaB,Bool.and_eq_true]at h;obtain⟨⟨h1,h2⟩,_⟩:=h;rw[Array.all_eq_true_iff_forall_mem]at h1;rw[List.all_eq_true]at h2;refine⟨fun e he hb=>?_,fun j hj hf=>?_⟩
  ·have:=h1 e he
   rw[hb]at this;simp only[Bool.not_true,Bool.false_or,blt_iff]at this
   simpa using this
  ·have:=h2 j (List.mem_range.2 (by simpa using hj))
   rw[Nat.add_zero]at hf;rw[hf,Bool.false_or,Array.any_eq_true']at this;obtain⟨e,he,hb⟩:=this;simp only[Bool.and_eq_true,Bool.or_eq_true,beq_iff,blt_iff,Bool.not_eq_true']at hb;exact⟨e,he,hb.1,hb.2⟩
 |o'::l,k,i+1,o,h,hi=>by
  simp only[List.getElem?_cons_succ]at hi;simp only[viaB,Bool.and_eq_true]at h;have:=viaB_ok h.2 hi;rw[show k+1+i=k+(i+1)from by omega]at this;exact this
theorem pairR_ok {free:Nat→Nat→Bool} {chk:List (Nat×Nat)} {p:Nat} {z:Nat×Ins}:∀{l:List (Nat×Ins)} {q k:Nat} {y:Nat×Ins},pairR free chk p z q l=true→l[k]?=some y→pair1 free chk p (q+k) z y=true
 |[],_,_,_,_,h=>by simp at h
 |y'::l,q,0,y,h,hk=>by
  simp only[List.getElem?_cons_zero,Option.some.injEq]at hk;subst hk;simp only[pairR,Bool.and_eq_true]at h;exact h.1
 |y'::l,q,k+1,y,h,hk=>by
  simp only[List.getElem?_cons_succ]at hk;simp only[pairR,Bool.and_eq_true]at h;have:=pairR_ok h.2 hk;rw[show q+1+k=q+(k+1)from by omega]at this;exact this
theorem pairsB_ok {free:Nat→Nat→Bool} {chk:List (Nat×Nat)}:∀{l:List (Nat×Ins)} {p i j:Nat} {z y:Nat×Ins},pairsB free chk p l=true→i<j→l[i]?=some z→l[j]?=some y→pair1 free chk (p+i) (p+j) z y=true
 |[],_,_,_,_,_,_,_,h,_=>by simp at h
 |z'::l,p,0,0,z,y,_,hij,_,_=>by omega
 |z'::l,p,0,j+1,z,y,h,_,hi,hj=>by
  simp only[List.getElem?_cons_zero,Option.some.injEq]at hi;simp only[List.getElem?_cons_succ]at hj;subst hi;simp only[pairsB,Bool.and_eq_true]at h;have:=pairR_ok h.1 hj;rw[show p+1+j=p+(j+1)from by omega]at this;exact this
 |z'::l,p,i+1,0,z,y,_,hij,_,_=>by omega
 |z'::l,p,i+1,j+1,z,y,h,hij,hi,hj=>by
  simp only[List.getElem?_cons_succ]at hi hj;simp only[pairsB,Bool.and_eq_true]at h;have:=pairsB_ok h.2 (by omega) hi hj;rw[show p+1+i=p+(i+1)from by omega,show p+1+j=p+(j+1)from by omega]at this;exact this
theorem inL_ok {p q:Nat} {l:List (Nat×Nat)} (h:inL p q l=true):(p,q)∈l:=by
 unfold inL at h
 induction l with
 |nil=>cases h
 |cons z l ih=>
  have h:(Bool.rec (any (fun z=>Nat.beq z.1 p&&Nat.beq z.2 q) l) true (Nat.beq z.1 p&&Nat.beq z.2 q):Bool)=true:=h;rw[brec']at h
  split at h
  ·rename_i hz
   simp only[Bool.and_eq_true,beq_iff]at hz;obtain⟨a,b⟩:=z;obtain⟨rfl,rfl⟩:=hz;exact List.mem_cons_self
  ·exact List.mem_cons_of_mem _ (ih h)
theorem stepsF_run:∀{l:List (Nat×Ins)} {s t:St} {fs gs:List Ft},stepsF P O base l s fs=some (t,gs)→∃L,Run P O base L s t∧L.map (·.1)=l∧gs=(L.map (·.2)).reverse++fs
 |[],s,t,fs,gs,h=>by
  have h:some (s,fs)=some (t,gs):=h
  cases h
  exact⟨[],.nil _,rfl,rfl⟩
 |z::l,s,t,fs,gs,h=>by
  have h:(@Option.rec St (fun _=>Option (St×List Ft)) none (fun s'=>stepsF P O base l s' (ft base z.2 s s'::fs)) (step1 P O base z.2 s))=some (t,gs):=h;rw[orec]at h
  split at h
  ·cases h
  ·rename_i s' hs
   obtain⟨L,h1,h2,h3⟩:=stepsF_run h;refine⟨(z,ft base z.2 s s')::L,.cons hs h1,by simp[h2],?_⟩;rw[h3];simp
theorem okF_ok {fs:List Ft} {n:Nat} {chk:List (Nat×Nat)} (h:okF fs n chk=true):∀p q,(p,q)∈chk→∃x y,nth fs (n-1-p)=some x∧nth fs (n-1-q)=some y∧clashes x y=false:=by
 induction chk with
 |nil=>intro p q hm;cases hm
 |cons z chk ih=>
  have h:(match nth fs (n-1-z.1),nth fs (n-1-z.2)with
   |some x,some y=>(Bool.rec (okF fs n chk) false (clashes x y):Bool)
   |_,_=>false)=true:=h
  intro p q hm
  split at h
  ·rename_i x y hx hy
   rw[brec']at h
   split at h
   ·cases h
   ·rename_i hc
    cases hm with
    |head=>exact⟨x,y,hx,hy,by simpa using hc⟩
    |tail _ hm=>exact ih h p q hm
  ·cases h
theorem run_ft {L:List ((Nat×Ins)×Ft)} {s t:St} (h:Run P O base L s t):∀p∈L,∃s s',p.2=ft base p.1.2 s s':=by
 induction h with
 |nil=>intro p hp;cases hp
 |cons h r ih=>
  intro p hp
  cases hp with
  |head=>exact⟨_,_,rfl⟩
  |tail _ hp=>exact ih p hp
theorem ft_low {x:Ins} {s s':St} (h:cls x.op≤1):∃l,ft base x s s'=.acc l∧(∀a∈l,a.1=false)∧(cls x.op=0→l=[]):=by
 unfold ft
 split
 ·split
  ·rename_i f as hxo
   rw[hxo]at h;have:cls (.call f as)=4:=rfl;omega
  ·rename_i hno
   refine⟨_,rfl,foot_reads h,fun h0=>?_⟩
   cases hxo:x.op<;>rw[hxo]at h0<;>simp[cls]at h0<;>rfl
 ·exact⟨[],rfl,(fun a ha=>by cases ha),fun _=>rfl⟩
theorem any_of_false {α:Type} {g:α→Bool}:∀{l:List α},(∀x∈l,g x=false)→any g l=false
 |[],_=>rfl
 |y::l,h=>by
  show(Bool.rec (any g l) true (g y):Bool)=false;rw[h y List.mem_cons_self];exact any_of_false fun x hx=>h x (List.mem_cons_of_mem _ hx)
theorem clashes_nil_l (g:Ft):clashes (.acc []) g=false:=by cases g<;>rfl
theorem clashes_nil_r (f:Ft):clashes f (.acc [])=false:=by
 cases f with
 |acc l=>exact any_of_false fun x _=>rfl
 |call a b=>rfl
theorem noclash {x y:Ins} {s s' t t':St} (h:dyn (cls x.op) (cls y.op)=false):clashes (ft base x s s') (ft base y t t')=false:=by
 have h':cls x.op=0∨cls y.op=0∨(cls x.op≤1∧cls y.op≤1):=by
  simp only[dyn,Bool.and_eq_false_iff,Bool.or_eq_false_iff]at h;have nb:∀a b,Nat.blt a b=false→b≤a:=fun a b hb=>by
   rcases Nat.lt_or_ge a b with h1|h1
   ·rw[(blt_iff a b).2 h1]at hb;cases hb
   ·exact h1
  rcases h with h|h|⟨h1,h2⟩
  ·exact .inl (by have:=nb _ _ h;omega)
  ·exact .inr (.inl (by have:=nb _ _ h;omega))
  ·exact .inr (.inr ⟨nb _ _ h1,nb _ _ h2⟩)
 rcases h' with h0|h0|⟨h1,h2⟩
 ·obtain⟨l,e,_,hl⟩:=ft_low (base:=base) (s:=s) (s':=s') (x:=x) (by omega)
  rw[e,hl h0];exact clashes_nil_l _
 ·obtain⟨l,e,_,hl⟩:=ft_low (base:=base) (s:=t) (s':=t') (x:=y) (by omega)
  rw[e,hl h0];exact clashes_nil_r _
 ·obtain⟨l,e,hl,_⟩:=ft_low (base:=base) (s:=s) (s':=s') h1
  obtain⟨m,e',hm,_⟩:=ft_low (base:=base) (s:=t) (s':=t') h2;rw[e,e'];refine any_of_false fun u hu=>any_of_false fun v hv=>?_
  obtain⟨a,p,r⟩:=u;obtain⟨b,q,r'⟩:=v;have ha:a=false:=hl _ hu;have hb:b=false:=hm _ hv;subst ha;subst hb;rfl
theorem dblk_ok (hG:Good P O) (hO:Fr O) {n:Nat} {ops:Array Oper} {l:List (Nat×Ins)} {chk:List (Nat×Nat)} (hf:fitDr P n ops l chk=true) {s t:St} {fs:List Ft}
 (hs:stepsF P O base l s []=some (t,fs)) (hok:okF fs (len l) chk=true) {β:Blk} {a:Act} {w:World} (hR:R n β s a w) {Q:Exit→Act→World→Prop}
 (hQ:∀β' a' w',R n β' t a' w'→Mv β w β' w'→Q .normal a' w'):wpAny P .any ops Q ops.size (Array.replicate ops.size false) a w:=by
 simp only[fitDr,Bool.and_eq_true]at hf;obtain⟨h1,h2,h3,h4,h5⟩:=hf;rw[List.all_eq_true]at h1 h2;have h5:=Nat.eq_of_beq_eq_true h5;obtain⟨L,hrun,hmap,hfs⟩:=stepsF_run hs;rw[List.append_nil]at hfs;have hlen:L.length=l.length:=by rw[←hmap];simp
 have getL:∀{i:Nat} {p:(Nat×Ins)×Ft},L[i]?=some p→l[i]?=some p.1:=by
  intro i p h;rw[←hmap,List.getElem?_map,h];rfl
 have hft:=run_ft hrun;have nthf:∀{i:Nat} {p:(Nat×Ins)×Ft},L[i]?=some p→nth fs (len l-1-i)=some p.2:=by
  intro i p h;have hi:i<L.length:=(List.getElem?_eq_some_iff.1 h).1;rw[nth_eq,len_eq,hfs,List.getElem?_reverse (by simp;omega),List.getElem?_map];rw[show(L.map (·.2)).length-1-(l.length-1-i)=i from by simp;omega,h];rfl
 have hpw:L.Pairwise (PR (freeL l)):=by
  rw[List.pairwise_iff_getElem];intro i j hi hj hij;have gi:L[i]?=some L[i]:=List.getElem?_eq_getElem hi;have gj:L[j]?=some L[j]:=List.getElem?_eq_getElem hj;have hp1:=pairsB_ok h4 hij (getL gi) (getL gj);rw[Nat.zero_add,Nat.zero_add]at hp1;simp only[pair1,Bool.and_eq_true,Bool.or_eq_true,Bool.not_eq_true']at hp1;obtain⟨hne,hfr,hlt⟩:=hp1;refine⟨fun hf=>?_,fun hj'=>?_⟩
  ·rcases hfr with hfr|⟨hpo,hd⟩
   ·rw[hf]at hfr;cases hfr
   ·refine⟨hpo,?_⟩
    rcases hd with hd|hd
    ·obtain⟨s1,s1',e1⟩:=hft _ (List.mem_of_getElem? gi)
     obtain⟨s2,s2',e2⟩:=hft _ (List.mem_of_getElem? gj);rw[e1,e2];exact noclash hd
    ·obtain⟨x,y,hx,hy,hc⟩:=okF_ok hok i j (inL_ok hd)
     rw[nthf gi]at hx;rw[nthf gj]at hy
     cases hx;cases hy
     exact hc
  ·rcases hlt with hlt|hlt
   ·rw[(blt_iff _ _).2 hj']at hlt;cases hlt
   ·exact hlt
 have hnd:(L.map (·.1.1)).Nodup:=by
  unfold List.Nodup;rw[List.pairwise_map,List.pairwise_iff_getElem];intro i j hi hj hij he;have gi:L[i]?=some L[i]:=List.getElem?_eq_getElem hi;have gj:L[j]?=some L[j]:=List.getElem?_eq_getElem hj;have hp1:=pairsB_ok h4 hij (getL gi) (getL gj);simp only[pair1,Bool.and_eq_true,Bool.not_eq_true']at hp1;have:=hp1.1;rw[he,Nat.beq_refl]at this
  cases this
 have hD:Drawn P n ops (freeL l) l:=by
  refine⟨fun z hz=>?_,fun i o ho e he hb=>?_,fun i o ho j hj hf=>?_⟩
  ·have:=h1 z hz
   split at this
   ·rename_i o ho;exact⟨o,ho,this⟩
   ·cases this
  ·have:=(viaB_ok h3 (show ops.toList[i]?=some o by simpa using ho)).1 e he hb
   omega
  ·have:=(viaB_ok h3 (show ops.toList[i]?=some o by simpa using ho)).2 j (by omega) (by rw[Nat.zero_add];exact hf)
   exact this
 refine any_ok hG hO hD ops.size (Array.replicate ops.size false) L s β a w (by omega) hrun hpw (fun p hp=>by rw[←hmap];exact List.mem_map.2 ⟨p,hp,rfl⟩) hnd (by simp) ?_ ?_ hR hQ
 ·intro i hi
  have hu:(Array.replicate ops.size false).getD i true=false:=by simp[hi]
  refine⟨fun _=>?_,fun _=>hu⟩;have:=h2 i (List.mem_range.2 hi);rw[List.any_eq_true]at this;obtain⟨z,hz,hzi⟩:=this;rw[beq_iff]at hzi;rw[←hmap]at hz;obtain⟨p,hp,rfl⟩:=List.mem_map.1 hz;exact List.mem_map.2 ⟨p,hp,hzi⟩
 ·intro j i hj hi hl
  simp[hi]at hl
end
end Go.Proofs.YtiahijhpjloijaaGreat.V

