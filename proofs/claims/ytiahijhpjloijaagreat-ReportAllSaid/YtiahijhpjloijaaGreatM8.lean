/- Parts of the proof, put together: Q1, Q2, Q3, Q4. -/
import Derived.Test.YtiahijhpjloijaaGreatM5
set_option linter.unusedVariables false
set_option linter.unusedSimpArgs false
namespace Go.Proofs.YtiahijhpjloijaaGreat.V
open Go
inductive U where
 |int (k:IntKind) (n:Int)
 |bool (b:Bool)
 |str (l:List Nat)
 |flt (b:Nat)
 |nan
 |nil
 |np
 |un
 |fz (k n:Nat) (l:List U)
 deriving Inhabited
inductive G where
 |v (u:U)
 |own (i k n:Nat)
 |loc (i o:Nat)
 |floc (l:List U) (o:Nat)
 deriving Inhabited
inductive GX where
 |one (c:G)
 |ag (l:List G)
 deriving Inhabited
inductive GD where
 |one (c:G)
 |ag (l:List G)
 |tup (l:List GX)
 deriving Inhabited
inductive GO where
 |ob (e:Nat) (fr:Bool) (cs:List G)
 |dead
 deriving Inhabited
structure GS where
 tm:Tr GD
 hp:List GO
def uB (bs:List Nat):List U:=bs.map fun x=>U.int .u8 (.ofNat x)
mutual
def RU (fz:Pos→Prop) (hp:Tr Ob):U→C→Prop
 | .int k n,c=>c=.int k n
 | .bool b,c=>c=.bool b
 | .str l,c=>c=.str l
 | .flt b,c=>c=.flt b
 | .nan,c=>c=.nan
 | .nil,c=>c=.nil
 | .np,c=>c=.np
 | .un,c=>c=.un
 | .fz k n l,c=>(n=0∧l=[]∧(c=.nil∨c=.emp))∨
     (∃p e all,c=.own p k n∧fz p∧Tr.get p hp=some (.ob e all)∧all.length=n*k∧RUL fz hp l all)∨
     (∃p off e all,c=.sl p k off n∧fz p∧Tr.get p hp=some (.ob e all)∧off+n*k≤all.length∧RUL fz hp l ((all.drop off).take (n*k)))∨
     (∃b o bs,c=.fs b o bs∧k=1∧n=bs.length∧l=uB bs)
def RUL (fz:Pos→Prop) (hp:Tr Ob):List U→List C→Prop
 |[],cs=>cs=[]
 |u::us,cs=>∃c t,cs=c::t∧RU fz hp u c∧RUL fz hp us t
end
theorem RUL_iff {fz:Pos→Prop} {hp:Tr Ob}:∀{l:List U} {cs:List C},RUL fz hp l cs↔Al (RU fz hp) l cs
 |[],cs=>by
  rw[RUL];constructor
  ·rintro rfl;exact .nil
  ·intro h;cases h;rfl
 |u::l,cs=>by
  rw[RUL];constructor
  ·rintro ⟨c,t,rfl,h1,h2⟩;exact .cons h1 (RUL_iff.1 h2)
  ·intro h;cases h with|cons h t=>exact⟨_,_,rfl,h,RUL_iff.2 t⟩
def Stay (fz fz':Pos→Prop) (hp hp':Tr Ob):Prop:=∀p,fz p→fz' p∧∀o,Tr.get p hp=some o→Tr.get p hp'=some o
theorem Stay.refl (fz:Pos→Prop) (hp:Tr Ob):Stay fz fz hp hp:=fun _ h=>⟨h,fun _ h=>h⟩
theorem Stay.trans {a b c:Pos→Prop} {x y z:Tr Ob} (h:Stay a b x y) (k:Stay b c y z):Stay a c x z:=fun p hp=>
 ⟨(k p (h p hp).1).1,fun o ho=>(k p (h p hp).1).2 o ((h p hp).2 o ho)⟩
mutual
theorem RU_mono {fz fz':Pos→Prop} {hp hp':Tr Ob} (h:Stay fz fz' hp hp'):∀(u:U) {c:C},RU fz hp u c→RU fz' hp' u c
 | .int _ _,_,e=>e
 | .bool _,_,e=>e
 | .str _,_,e=>e
 | .flt _,_,e=>e
 | .nan,_,e=>e
 | .nil,_,e=>e
 | .np,_,e=>e
 | .un,_,e=>e
 | .fz k n l,c,e=>by
   rw[RU]at e⊢;rcases e with e|⟨p,e,all,h1,h2,h3,h4,h5⟩|⟨p,off,e,all,h1,h2,h3,h4,h5⟩|e
   ·exact .inl e
   ·exact .inr (.inl ⟨p,e,all,h1,(h p h2).1,(h p h2).2 _ h3,h4,RUL_mono h l h5⟩)
   ·exact .inr (.inr (.inl ⟨p,off,e,all,h1,(h p h2).1,(h p h2).2 _ h3,h4,RUL_mono h l h5⟩))
   ·exact .inr (.inr (.inr e))
theorem RUL_mono {fz fz':Pos→Prop} {hp hp':Tr Ob} (h:Stay fz fz' hp hp'):∀(l:List U) {cs:List C},RUL fz hp l cs→RUL fz' hp' l cs
 |[],_,e=>by rw[RUL]at e⊢;exact e
 |u::l,cs,e=>by
  rw[RUL]at e⊢;obtain⟨c,t,rfl,h1,h2⟩:=e;exact⟨c,t,rfl,RU_mono h u h1,RUL_mono h l h2⟩
end
structure En2 where
 φ:Nat→Option Pos
 fz:Pos→Prop
def RG (E:En2) (hp:Tr Ob):G→C→Prop
 | .v u,c=>RU E.fz hp u c
 | .own i k n,c=>∃p,E.φ i=some p∧c=.own p k n
 | .loc i o,c=>∃p,E.φ i=some p∧c=.loc p o
 | .floc l o,c=>(∃p a e all,c=.loc p (a+o)∧E.fz p∧Tr.get p hp=some (.ob e all)∧a+l.length≤all.length∧Al (RU E.fz hp) l ((all.drop a).take l.length))∨
     ∃b a bs,c=.fp b a bs o∧l=uB bs
def RX (E:En2) (hp:Tr Ob):GX→X→Prop
 | .one g,.one c=>RG E hp g c
 | .ag l,.ag cs=>Al (RG E hp) l cs
 |_,_=>False
def RD (E:En2) (hp:Tr Ob):GD→D→Prop
 | .one g,.one c=>RG E hp g c
 | .ag l,.ag cs=>Al (RG E hp) l cs
 | .tup l,.tup cs=>Al (RX E hp) l cs
 |_,_=>False
structure More (E E':En2) (hp hp':Tr Ob):Prop where
 φ:∀i p,E.φ i=some p→E'.φ i=some p
 st:Stay E.fz E'.fz hp hp'
theorem More.refl (E:En2) (hp:Tr Ob):More E E hp hp:=⟨fun _ _ h=>h,.refl _ _⟩
theorem More.trans {a b c:En2} {x y z:Tr Ob} (h:More a b x y) (k:More b c y z):More a c x z:=⟨fun i p e=>k.φ i p (h.φ i p e),h.st.trans k.st⟩
theorem AlRU_mono {fz fz':Pos→Prop} {hp hp':Tr Ob} (h:Stay fz fz' hp hp') {l:List U} {cs:List C} (e:Al (RU fz hp) l cs):Al (RU fz' hp') l cs:=e.imp fun u c=>RU_mono h u
theorem RG_mono {E E':En2} {hp hp':Tr Ob} (h:More E E' hp hp'):∀{g:G} {c:C},RG E hp g c→RG E' hp' g c
 | .v u,c,e=>RU_mono h.st u e
 | .own i k n,c,⟨p,h1,h2⟩=>⟨p,h.φ i p h1,h2⟩
 | .loc i o,c,⟨p,h1,h2⟩=>⟨p,h.φ i p h1,h2⟩
 | .floc l o,c,.inl ⟨p,a,e,all,h1,h2,h3,h4,h5⟩=>.inl ⟨p,a,e,all,h1,(h.st p h2).1,(h.st p h2).2 _ h3,h4,AlRU_mono h.st h5⟩
 | .floc l o,c,.inr e=>.inr e
theorem AlRG_mono {E E':En2} {hp hp':Tr Ob} (h:More E E' hp hp') {l:List G} {cs:List C} (e:Al (RG E hp) l cs):Al (RG E' hp') l cs:=e.imp fun _ _=>RG_mono h
theorem RX_mono {E E':En2} {hp hp':Tr Ob} (h:More E E' hp hp'):∀{g:GX} {c:X},RX E hp g c→RX E' hp' g c
 | .one _,.one _,e=>RG_mono h e
 | .ag _,.ag _,e=>AlRG_mono h e
theorem RD_mono {E E':En2} {hp hp':Tr Ob} (h:More E E' hp hp'):∀{g:GD} {c:D},RD E hp g c→RD E' hp' g c
 | .one _,.one _,e=>RG_mono h e
 | .ag _,.ag _,e=>AlRG_mono h e
 | .tup _,.tup _,e=>e.imp fun _ _=>RX_mono h
structure RH (E:En2) (l:List GO) (hp:Tr Ob):Prop where
 ob:∀i e fr cs,l[i]?=some (.ob e fr cs)→∃p cs',E.φ i=some p∧Tr.get p hp=some (.ob e cs')∧Al (RG E hp) cs cs'∧(fr=true↔E.fz p)
 inj:∀i j p,E.φ i=some p→E.φ j=some p→i=j
 dom:∀i p,E.φ i=some p→i<l.length
 ex:∀i p,E.φ i=some p→Tr.get p hp≠none
 fzd:∀p,E.fz p→∃e cs,Tr.get p hp=some (.ob e cs)
 own:∀i p,E.φ i=some p→E.fz p→∃e cs,l[i]?=some (.ob e true cs)
 tot:∀i,i<l.length→∃p,E.φ i=some p
theorem RH.fzn {E:En2} {l:List GO} {hp:Tr Ob} (h:RH E l hp) {p:Pos} (hf:E.fz p):Tr.get p hp≠none:=by
 obtain⟨e,cs,k⟩:=h.fzd p hf;rw[k];exact Option.some_ne_none _
def RT (E:En2) (hp:Tr Ob) (g:Tr GD) (t:Tr D):Prop:=∀p d,Tr.get p g=some d→∃d',Tr.get p t=some d'∧RD E hp d d'
theorem RT_mono {E E':En2} {hp hp':Tr Ob} (h:More E E' hp hp') {g:Tr GD} {t:Tr D} (r:RT E hp g t):RT E' hp' g t:=fun p d e=>by
 obtain⟨d',h1,h2⟩:=r p d e;exact⟨d',h1,RD_mono h h2⟩
theorem RT_set {E:En2} {hp:Tr Ob} {g:Tr GD} {t:Tr D} (r:RT E hp g t) {q:Pos} {d:GD} {d':D} (h:RD E hp d d'):RT E hp (Tr.set q d g) (Tr.set q d' t):=fun p x e=>by
 rw[Tr.get_set]at e⊢
 split at e
 ·rename_i hq;rw[if_pos hq];cases e;exact⟨_,rfl,h⟩
 ·rename_i hq;rw[if_neg hq];exact r p x e
structure Fra (E E':En2) (hp hp':Tr Ob) (new:Pos→Prop):Prop where
 more:More E E' hp hp'
 keep:∀p,Tr.get p hp≠none→(∀i,E.φ i≠some p)→Tr.get p hp'=Tr.get p hp
 ex:∀p,Tr.get p hp≠none→Tr.get p hp'≠none
 new:∀p,Tr.get p hp=none→Tr.get p hp'≠none→new p
 φn:∀i p,E'.φ i=some p→E.φ i=some p∨Tr.get p hp=none
 fzn:∀p,E'.fz p→E.fz p∨(∃i,E.φ i=some p)∨Tr.get p hp=none
theorem Fra.refl (E:En2) (hp:Tr Ob) (new:Pos→Prop):Fra E E hp hp new:=
 ⟨.refl _ _,fun _ _ _=>rfl,fun _ h=>h,fun _ h h'=>absurd h h',fun _ _ h=>.inl h,fun _ h=>.inl h⟩
theorem Fra.mono {E E':En2} {hp hp':Tr Ob} {a b:Pos→Prop} (h:∀p,a p→b p) (f:Fra E E' hp hp' a):Fra E E' hp hp' b:=
 ⟨f.more,f.keep,f.ex,fun p x y=>h p (f.new p x y),f.φn,f.fzn⟩
theorem Fra.trans {E1 E2 E3:En2} {h1 h2 h3:Tr Ob} {a:Pos→Prop} (f:Fra E1 E2 h1 h2 a) (g:Fra E2 E3 h2 h3 a):Fra E1 E3 h1 h3 a:=by
 refine⟨f.more.trans g.more,fun p hp hn=>?_,fun p hp=>g.ex p (f.ex p hp),fun p hp hn=>?_,fun i p hi=>?_,fun p hp=>?_⟩
 ·have h2:=f.ex p hp
  rw[g.keep p h2 ?_,f.keep p hp hn];intro i hi;rcases f.φn i p hi with h|h
  ·exact hn i h
  ·exact hp h
 ·by_cases hq:Tr.get p h2=none
  ·exact g.new p hq hn
  ·exact f.new p hp hq
 ·rcases g.φn i p hi with h|h
  ·exact f.φn i p h
  ·by_cases hq:Tr.get p h1=none
   ·exact .inr hq
   ·exact absurd h (f.ex p hq)
 ·rcases g.fzn p hp with h|⟨i,h⟩|h
  ·exact f.fzn p h
  ·rcases f.φn i p h with h|h
   ·exact .inr (.inl ⟨i,h⟩)
   ·exact .inr (.inr h)
  ·by_cases hq:Tr.get p h1=none
   ·exact .inr (.inr hq)
   ·exact absurd h (f.ex p hq)
end Go.Proofs.YtiahijhpjloijaaGreat.V

namespace Go.Proofs.YtiahijhpjloijaaGreat.V
open Go
noncomputable def setO (l:List GO) (i:Nat) (o:GO):List GO:=splice [o] i l
theorem setO_len (l:List GO) (i:Nat) (o:GO):(setO l i o).length=l.length:=splice_len _ _ _
theorem setO_get {l:List GO} {i:Nat} {o:GO} (h:i<l.length) (j:Nat):(setO l i o)[j]?=if j=i then some o else l[j]?:=by
 rw[setO,splice_get _ _ _ (by simp only[List.length_cons,List.length_nil];omega)]
 by_cases hj:j=i
 ·subst hj;simp
 ·rw[if_neg hj,if_neg]
  simp only[List.length_cons,List.length_nil];omega
def En2.add (E:En2) (i:Nat) (p:Pos):En2:=⟨fun j=>if j=i then some p else E.φ j,E.fz⟩
theorem lt_of_get {α:Type} {l:List α} {i:Nat} {x:α} (h:l[i]?=some x):i<l.length:=(List.getElem?_eq_some_iff.1 h).1
theorem add_φ {E:En2} {l:List GO} {hp:Tr Ob} (h:RH E l hp) {n:Nat} (hn:l.length≤n) (p:Pos):∀i q,E.φ i=some q→(E.add n p).φ i=some q:=by
 intro i q e;have:=h.dom i q e;show(if i=n then some p else E.φ i)=some q;rw[if_neg (by omega)];exact e
theorem new_ok {E:En2} {l:List GO} {hp:Tr Ob} (h:RH E l hp) {nid:Pos} (hn:Tr.get nid hp=none) {e:Nat} {cs:List G} {cs':List C} (hc:Al (RG E hp) cs cs'):
 RH (E.add l.length nid) (l++[.ob e false cs]) (Tr.set nid (.ob e cs') hp)∧Fra E (E.add l.length nid) hp (Tr.set nid (.ob e cs') hp) (· =nid)∧(E.add l.length nid).φ l.length=some nid:=by
 have hmore:More E (E.add l.length nid) hp (Tr.set nid (.ob e cs') hp):=by
  refine⟨add_φ h (Nat.le_refl _) nid,fun p hp'=>⟨hp',fun o ho=>?_⟩⟩;rw[Tr.get_set_ne];· exact ho
  rintro rfl;rw[hn]at ho;cases ho
 have hnφ:∀i,E.φ i≠some nid:=fun i hi=>h.ex i nid hi hn
 have hφ:(E.add l.length nid).φ l.length=some nid:=by show(if l.length=l.length then some nid else _)=_;rw[if_pos rfl]
 have hinv:∀i p,(E.add l.length nid).φ i=some p→(i=l.length∧p=nid)∨(i<l.length∧E.φ i=some p∧p≠nid):=by
  intro i p hi;have hi:(if i=l.length then some nid else E.φ i)=some p:=hi
  split at hi
  ·cases hi;exact .inl ⟨by assumption,rfl⟩
  ·exact .inr ⟨h.dom i p hi,hi,fun e=>hnφ i (e▸hi)⟩
 refine⟨⟨?_,?_,?_,?_,?_,?_,?_⟩,⟨hmore,?_,?_,?_,?_,?_⟩,hφ⟩
 ·intro i e' fr cs1 hi
  rw[List.getElem?_append]at hi
  split at hi
  ·obtain⟨p,cs2,h1,h2,h3,h4⟩:=h.ob i e' fr cs1 hi
   refine⟨p,cs2,hmore.φ i p h1,?_,AlRG_mono hmore h3,h4⟩;rw[Tr.get_set_ne];· exact h2
   rintro rfl;exact hnφ i h1
  ·rename_i hlt
   have:i-l.length=0:=by
    have:=lt_of_get hi;simp at this;omega
   rw[this]at hi;have hil:i=l.length:=by omega
   subst hil;simp only[List.getElem?_cons_zero,Option.some.injEq,GO.ob.injEq]at hi;obtain⟨rfl,rfl,rfl⟩:=hi;refine⟨nid,cs',hφ,Tr.get_set_eq _ _ _,AlRG_mono hmore hc,?_⟩;constructor
   ·intro h;cases h
   ·intro hf;exact absurd hn (h.fzn hf)
 ·intro i j p hi hj
  rcases hinv i p hi with⟨rfl,rfl⟩|⟨h1,h2,h3⟩<;>rcases hinv j _ hj with⟨rfl,h4⟩|⟨h4,h5,h6⟩
  ·rfl
  ·exact absurd rfl h6
  ·exact absurd h4 h3
  ·exact h.inj i j p h2 h5
 ·intro i p hi
  rw[List.length_append];rcases hinv i p hi with⟨rfl,rfl⟩|⟨h1,h2,h3⟩<;>simp<;>omega
 ·intro i p hi
  rcases hinv i p hi with⟨rfl,rfl⟩|⟨h1,h2,h3⟩
  ·rw[Tr.get_set_eq];exact Option.some_ne_none _
  ·rw[Tr.get_set_ne _ _ (Ne.symm h3)];exact h.ex i p h2
 ·intro p hp'
  have he:nid≠p:=fun e=>h.fzn (e▸hp') hn
  rw[Tr.get_set_ne _ _ he];exact h.fzd p hp'
 ·intro i p hi hf
  rcases hinv i p hi with⟨rfl,rfl⟩|⟨h1,h2,h3⟩
  ·exact absurd hn (h.fzn hf)
  ·obtain⟨e',cs1,h4⟩:=h.own i p h2 hf
   exact⟨e',cs1,by rw[List.getElem?_append,if_pos h1];exact h4⟩
 ·intro i hi
  rw[List.length_append]at hi
  by_cases he:i=l.length
  ·subst he;exact⟨nid,hφ⟩
  ·obtain⟨p,h1⟩:=h.tot i (by simp at hi;omega)
   exact⟨p,hmore.φ i p h1⟩
 ·intro p hp' _
  rw[Tr.get_set_ne];rintro rfl;exact hp' hn
 ·intro p hp'
  by_cases he:nid=p
  ·subst he;rw[Tr.get_set_eq];exact Option.some_ne_none _
  ·rw[Tr.get_set_ne _ _ he];exact hp'
 ·intro p h1 h2
  by_cases he:nid=p
  ·exact he.symm
  ·rw[Tr.get_set_ne _ _ he]at h2;exact absurd h1 h2
 ·intro i p hi
  rcases hinv i p hi with⟨rfl,rfl⟩|⟨h1,h2,h3⟩
  ·exact .inr hn
  ·exact .inl h2
 ·exact fun p h=>.inl h
theorem set_ok {E:En2} {l:List GO} {hp:Tr Ob} (h:RH E l hp) {i:Nat} {p:Pos} {e e':Nat} {cs cs2:List G} {cs':List C} (hi:l[i]?=some (.ob e false cs)) (hp':E.φ i=some p) (hc:Al (RG E hp) cs2 cs') (new:Pos→Prop):
 RH E (setO l i (.ob e' false cs2)) (Tr.set p (.ob e' cs') hp)∧Fra E E hp (Tr.set p (.ob e' cs') hp) new:=by
 obtain⟨p',cs0,h1,h2,h3,h4⟩:=h.ob i e false cs hi;rw[hp']at h1;cases h1;have hnf:¬E.fz p:=fun hf=>by have:=h4.2 hf;cases this
 have hil:=lt_of_get hi;have hmore:More E E hp (Tr.set p (.ob e' cs') hp):=by
  refine⟨fun _ _ h=>h,fun q hq=>⟨hq,fun o ho=>?_⟩⟩;rw[Tr.get_set_ne];· exact ho
  rintro rfl;exact hnf hq
 have hex:∀q,Tr.get q hp≠none→Tr.get q (Tr.set p (.ob e' cs') hp)≠none:=by
  intro q hq
  by_cases he:p=q
  ·subst he;rw[Tr.get_set_eq];exact Option.some_ne_none _
  ·rw[Tr.get_set_ne _ _ he];exact hq
 refine⟨⟨?_,h.inj,?_,?_,?_,?_,fun j hj=>h.tot j (by rw[setO_len]at hj;exact hj)⟩,⟨hmore,?_,hex,?_,?_,?_⟩⟩
 ·intro j e1 fr cs1 hj
  rw[setO_get hil]at hj
  split at hj
  ·rename_i hji;subst hji
   cases hj
   exact⟨p,cs',hp',Tr.get_set_eq _ _ _,AlRG_mono hmore hc,⟨(fun h=>by cases h),fun h=>absurd h hnf⟩⟩
  ·rename_i hji
   obtain⟨q,cs4,k1,k2,k3,k4⟩:=h.ob j e1 fr cs1 hj;refine⟨q,cs4,k1,?_,AlRG_mono hmore k3,k4⟩;rw[Tr.get_set_ne];· exact k2
   rintro rfl;exact hji (h.inj _ _ _ k1 hp')
 ·intro j q hj;rw[setO_len];exact h.dom j q hj
 ·intro j q hj;exact hex q (h.ex j q hj)
 ·intro q hq
  have he:p≠q:=by rintro rfl;exact hnf hq
  rw[Tr.get_set_ne _ _ he];exact h.fzd q hq
 ·intro j q hj hq
  obtain⟨e1,cs1,k⟩:=h.own j q hj hq;refine⟨e1,cs1,?_⟩;rw[setO_get hil,if_neg];· exact k
  rintro rfl;rw[hp']at hj;cases hj;exact hnf hq
 ·intro q hq hn;rw[Tr.get_set_ne];rintro rfl;exact hn i hp'
 ·intro q h1' h2'
  by_cases he:p=q
  ·subst he;rw[h2]at h1';cases h1'
  ·rw[Tr.get_set_ne _ _ he]at h2';exact absurd h1' h2'
 ·exact fun j q hj=>.inl hj
 ·exact fun q hq=>.inl hq
theorem kill_ok {E:En2} {l:List GO} {hp:Tr Ob} (h:RH E l hp) {i:Nat} {p:Pos} {e:Nat} {cs:List G} (hi:l[i]?=some (.ob e false cs)) (hp':E.φ i=some p) (new:Pos→Prop):
 RH E (setO l i .dead) (Tr.set p .dead hp)∧Fra E E hp (Tr.set p .dead hp) new:=by
 obtain⟨p',cs0,h1,h2,h3,h4⟩:=h.ob i e false cs hi;rw[hp']at h1;cases h1;have hnf:¬E.fz p:=fun hf=>by have:=h4.2 hf;cases this
 have hil:=lt_of_get hi;have hmore:More E E hp (Tr.set p .dead hp):=by
  refine⟨fun _ _ h=>h,fun q hq=>⟨hq,fun o ho=>?_⟩⟩;rw[Tr.get_set_ne];· exact ho
  rintro rfl;exact hnf hq
 have hex:∀q,Tr.get q hp≠none→Tr.get q (Tr.set p .dead hp)≠none:=by
  intro q hq
  by_cases he:p=q
  ·subst he;rw[Tr.get_set_eq];exact Option.some_ne_none _
  ·rw[Tr.get_set_ne _ _ he];exact hq
 refine⟨⟨?_,h.inj,?_,?_,?_,?_,fun j hj=>h.tot j (by rw[setO_len]at hj;exact hj)⟩,⟨hmore,?_,hex,?_,?_,?_⟩⟩
 ·intro j e1 fr cs1 hj
  rw[setO_get hil]at hj
  split at hj
  ·cases hj
  ·rename_i hji
   obtain⟨q,cs4,k1,k2,k3,k4⟩:=h.ob j e1 fr cs1 hj;refine⟨q,cs4,k1,?_,AlRG_mono hmore k3,k4⟩;rw[Tr.get_set_ne];· exact k2
   rintro rfl;exact hji (h.inj _ _ _ k1 hp')
 ·intro j q hj;rw[setO_len];exact h.dom j q hj
 ·intro j q hj;exact hex q (h.ex j q hj)
 ·intro q hq
  have he:p≠q:=by rintro rfl;exact hnf hq
  rw[Tr.get_set_ne _ _ he];exact h.fzd q hq
 ·intro j q hj hq
  obtain⟨e1,cs1,k⟩:=h.own j q hj hq;refine⟨e1,cs1,?_⟩;rw[setO_get hil,if_neg];· exact k
  rintro rfl;rw[hp']at hj;cases hj;exact hnf hq
 ·intro q hq hn;rw[Tr.get_set_ne];rintro rfl;exact hn i hp'
 ·intro q h1' h2'
  by_cases he:p=q
  ·subst he;rw[h2]at h1';cases h1'
  ·rw[Tr.get_set_ne _ _ he]at h2';exact absurd h1' h2'
 ·exact fun j q hj=>.inl hj
 ·exact fun q hq=>.inl hq
noncomputable def mapsV (l:List U):List G:=maps .v l
theorem mapsV_eq (l:List U):mapsV l=l.map .v:=maps_eq _ _
theorem Al_v {E:En2} {hp:Tr Ob}:∀{l:List U} {cs:List C},Al (RU E.fz hp) l cs→Al (RG E hp) (l.map .v) cs
 |_,_,.nil=>.nil
 |_,_,.cons h t=>.cons h (Al_v t)
noncomputable def frs (g:List GO→G→Option (List GO×U)) (cs:List G):List GO→Option (List GO×List U):=
 List.rec (fun hp=>some (hp,[])) (fun c _ ih hp=>match g hp c with
  |some (hp,u)=>match ih hp with|some (hp,us)=>some (hp,u::us)|none=>none
  |none=>none) cs
noncomputable def frz (n:Nat):List GO→G→Option (List GO×U):=
 Nat.rec (fun _ _=>none) (fun _ ih hp c=>match c with
  | .v u=>some (hp,u)
  | .own i k m=>match nth hp i with
    |some (.ob e fr cs)=>match frs ih cs hp with
     |some (hp',us)=>match nth hp' i with
      |some (.ob e' fr' _)=>Bool.rec none (some (setO hp' i (.ob e' true (mapsV us)),.fz k m us)) (Bool.rec false (Nat.beq e e') (Nat.beq (len us) (m*k)))
      |_=>none
     |none=>none
    |_=>none
  |_=>none) n
structure FrOk (E E':En2) (l l':List GO) (hp:Tr Ob):Prop where
 rh:RH E' l' hp
 φ:E'.φ=E.φ
 len:l'.length=l.length
 fra:∀new,Fra E E' hp hp new
 st:∀(i:Nat) e fr cs,l'[i]?=some (.ob e fr cs)→∃cs0 fr0,l[i]?=some (.ob e fr0 cs0)∧((fr=true)∨(fr0=fr∧cs0=cs))
 dead:∀(i:Nat),l[i]?=some .dead→l'[i]?=some .dead
 keep:∀(i:Nat) e cs,l[i]?=some (.ob e true cs)→∃cs',l'[i]?=some (.ob e true cs')
theorem FrOk.refl {E:En2} {l:List GO} {hp:Tr Ob} (h:RH E l hp):FrOk E E l l hp:=
 ⟨h,rfl,rfl,fun _=>.refl _ _ _,fun i e fr cs hi=>⟨cs,fr,hi,.inr ⟨rfl,rfl⟩⟩,fun _ h=>h,fun i e cs h=>⟨cs,h⟩⟩
theorem FrOk.trans {E E' E2:En2} {l l' l2:List GO} {hp:Tr Ob} (a:FrOk E E' l l' hp) (b:FrOk E' E2 l' l2 hp):FrOk E E2 l l2 hp:=by
 refine⟨b.rh,b.φ.trans a.φ,b.len.trans a.len,fun new=>(a.fra new).trans (b.fra new),fun i e fr cs hi=>?_,fun i hi=>b.dead i (a.dead i hi),fun i e cs hi=>?_⟩
 ·obtain⟨cs1,fr1,h1,h2⟩:=b.st i e fr cs hi
  obtain⟨cs0,fr0,h3,h4⟩:=a.st i e fr1 cs1 h1;refine⟨cs0,fr0,h3,?_⟩;rcases h2 with h2|⟨rfl,rfl⟩
  ·exact .inl h2
  ·exact h4
 ·obtain⟨cs1,h1⟩:=a.keep i e cs hi
  exact b.keep i e cs1 h1
theorem frs_ok {g:List GO→G→Option (List GO×U)} {hp:Tr Ob}
 (hg:∀{E:En2} {l l':List GO} {c:G} {u:U},RH E l hp→g l c=some (l',u)→∀{c':C},RG E hp c c'→∃E',FrOk E E' l l' hp∧RU E'.fz hp u c'):
 ∀{cs:List G} {E:En2} {l l':List GO} {us:List U},RH E l hp→frs g cs l=some (l',us)→∀{cs':List C},Al (RG E hp) cs cs'→∃E',FrOk E E' l l' hp∧Al (RU E'.fz hp) us cs'
 |[],E,l,l',us,h,hf,cs',ha=>by
  cases ha
  have hf:some (l,([]:List U))=some (l',us):=hf
  cases hf
  exact⟨E,.refl h,.nil⟩
 |c::cs,E,l,l',us,h,hf,cs',ha=>by
  cases ha with
  |@cons _ c1 _ cs1 h1 h2=>
   have hf:(match g l c with
    |some (hp,u)=>match frs g cs hp with|some (hp,us)=>some (hp,u::us)|none=>none
    |none=>none)=some (l',us):=hf
   split at hf
   ·rename_i l1 u hu
    split at hf
    ·rename_i l2 us2 hus
     cases hf
     obtain⟨E1,k1,k2⟩:=hg h hu h1;obtain⟨E2,k3,k4⟩:=frs_ok hg k1.rh hus (AlRG_mono (k1.fra (fun _=>True)).more h2);exact⟨E2,k1.trans k3,.cons (RU_mono (k3.fra (fun _=>True)).more.st _ k2) k4⟩
    ·cases hf
   ·cases hf
theorem frz_ok {hp:Tr Ob}:∀{n:Nat} {E:En2} {l l':List GO} {c:G} {u:U},RH E l hp→frz n l c=some (l',u)→∀{c':C},RG E hp c c'→∃E',FrOk E E' l l' hp∧RU E'.fz hp u c'
 |0,_,_,_,_,_,_,h,_,_=>by cases h
 |n+1,E,l,l',c,u,h,hf,c',hc=>by
  cases c with
  |v u'=>
   have hf:some (l,u')=some (l',u):=hf
   cases hf
   exact⟨E,.refl h,hc⟩
  |loc i o=>cases hf
  |floc l o=>cases hf
  |own i k m=>
   have hf:(match nth l i with
    |some (.ob e fr cs)=>match frs (frz n) cs l with
     |some (hp',us)=>match nth hp' i with
      |some (.ob e' fr' _)=>(Bool.rec none (some (setO hp' i (.ob e' true (mapsV us)),.fz k m us)) (Bool.rec false (Nat.beq e e') (Nat.beq (V.len us) (m*k)):Bool):Option (List GO×U))
      |_=>none
     |none=>none
    |_=>none)=some (l',u):=hf
   split at hf
   case h_2=>cases hf
   rename_i e fr cs hi
   split at hf
   case h_2=>cases hf
   rename_i l1 us hus
   split at hf
   case h_2=>cases hf
   rename_i e' fr' cs2 hi2;rw[brec']at hf
   split at hf
   case isFalse=>cases hf
   rename_i hb
   cases hf
   rw[brec']at hb
   split at hb
   case isFalse=>cases hb
   rename_i hl;rw[beq_iff]at hb hl;rw[len_eq]at hl;subst hb;rw[nth_eq]at hi hi2;obtain⟨p,cs',h1,h2,h3,h4⟩:=h.ob i e fr cs hi;obtain⟨q,hq1,rfl⟩:=hc;rw[h1]at hq1;cases hq1;obtain⟨E1,k1,k2⟩:=frs_ok (fun a b=>frz_ok a b) h hus h3;have hE1:E1.φ i=some p:=by rw[k1.φ];exact h1
   let E2:En2:=⟨E1.φ,fun q=>E1.fz q∨q=p⟩
   have hil:=lt_of_get hi2;have hmore:More E1 E2 hp hp:=⟨fun _ _ h=>h,fun q hq=>⟨.inl hq,fun o ho=>ho⟩⟩;have hus':Al (RU E2.fz hp) us cs':=AlRU_mono hmore.st k2;have hrh:RH E2 (setO l1 i (.ob e true (mapsV us))) hp:=by
    refine⟨?_,k1.rh.inj,?_,k1.rh.ex,?_,?_,fun j hj=>k1.rh.tot j (by rw[setO_len]at hj;exact hj)⟩
    ·intro j e1 fr1 cs1 hj
     rw[setO_get hil]at hj
     split at hj
     ·rename_i hji;subst hji
      cases hj
      exact⟨p,cs',hE1,h2,by rw[mapsV_eq];exact Al_v hus',⟨fun _=>.inr rfl,fun _=>rfl⟩⟩
     ·rename_i hji
      obtain⟨q,cs3,m1,m2,m3,m4⟩:=k1.rh.ob j e1 fr1 cs1 hj;refine⟨q,cs3,m1,m2,AlRG_mono hmore m3,m4.trans ⟨.inl,?_⟩⟩
      rintro (hq|rfl)
      ·exact hq
      ·exact absurd (k1.rh.inj _ _ _ m1 hE1) hji
    ·intro j q hj;rw[setO_len];exact k1.rh.dom j q hj
    ·rintro q (hq|rfl)
     ·exact k1.rh.fzd q hq
     ·exact⟨_,_,h2⟩
    ·rintro j q hj (hq|rfl)
     ·obtain⟨e1,cs1,m⟩:=k1.rh.own j q hj hq
      by_cases hji:j=i
      ·subst hji;exact⟨e,_,by rw[setO_get hil,if_pos rfl]⟩
      ·exact⟨e1,cs1,by rw[setO_get hil,if_neg hji];exact m⟩
     ·have:=k1.rh.inj _ _ _ hj hE1
      subst this;exact⟨e,_,by rw[setO_get hil,if_pos rfl]⟩
   have hfr:FrOk E1 E2 l1 (setO l1 i (.ob e true (mapsV us))) hp:=by
    refine⟨hrh,rfl,setO_len _ _ _,fun new=>⟨hmore,fun _ _ _=>rfl,fun _ h=>h,fun _ h h'=>absurd h h',fun _ _ h=>.inl h,?_⟩,?_,?_,?_⟩
    ·rintro q (hq|rfl)
     ·exact .inl hq
     ·exact .inr (.inl ⟨i,hE1⟩)
    ·intro j e1 fr1 cs1 hj
     rw[setO_get hil]at hj
     split at hj
     ·rename_i hji;subst hji
      cases hj
      exact⟨cs2,fr',hi2,.inl rfl⟩
     ·exact⟨cs1,fr1,hj,.inr ⟨rfl,rfl⟩⟩
    ·intro j hj
     rw[setO_get hil,if_neg];· exact hj
     rintro rfl;rw[hi2]at hj;cases hj
    ·intro j e1 cs1 hj
     by_cases hji:j=i
     ·subst hji
      rw[hi2]at hj;cases hj;exact⟨_,by rw[setO_get hil,if_pos rfl]⟩
     ·exact⟨cs1,by rw[setO_get hil,if_neg hji];exact hj⟩
   refine⟨E2,k1.trans hfr,?_⟩;rw[RU];refine .inr (.inl ⟨p,e,cs',rfl,.inr rfl,h2,?_,RUL_iff.2 hus'⟩);rw[←hus'.len,hl]
end Go.Proofs.YtiahijhpjloijaaGreat.V

namespace Go.Proofs.YtiahijhpjloijaaGreat.V
open Go
noncomputable def cU (c:C):Option U:=
 match c with
 | .int k n=>some (.int k n)
 | .bool b=>some (.bool b)
 | .str l=>some (.str l)
 | .flt b=>some (.flt b)
 | .nan=>some .nan
 | .nil=>some .nil
 | .np=>some .np
 | .un=>some .un
 |_=>none
noncomputable def toC (u:U):Option C:=
 match u with
 | .int k n=>some (.int k n)
 | .bool b=>some (.bool b)
 | .str l=>some (.str l)
 | .flt b=>some (.flt b)
 | .nan=>some .nan
 | .nil=>some .nil
 | .np=>some .np
 | .un=>some .un
 |_=>none
noncomputable def cG (c:C):Option G:=match cU c with|some u=>some (.v u)|none=>none
noncomputable def dG (d:D):Option GD:=
 match d with
 | .one c=>match cG c with|some g=>some (.one g)|none=>none
 | .ag l=>match each cG l with|some g=>some (.ag g)|none=>none
 | .tup _=>none
noncomputable def gC (g:G):Option C:=match g with| .v u=>toC u|_=>none
noncomputable def gval (tm:Tr GD) (a:A):Option GD:=A.rec (fun p=>Tr.get p tm) (fun d=>dG d) a
noncomputable def gcel (tm:Tr GD) (a:A):Option G:=
 Option.rec none (fun d=>GD.rec (fun c=>some c) (fun _=>none) (fun _=>none) d) (gval tm a)
noncomputable def gsc (tm:Tr GD) (a:A):Option C:=match gcel tm a with|some g=>gC g|none=>none
noncomputable def glone (c:G):Option (List G):=match c with| .v .un=>none|c=>some [c]
noncomputable def gcells (tm:Tr GD) (a:A):Option (List G):=
 Option.rec none (fun d=>GD.rec (fun c=>glone c) (fun l=>some l) (fun _=>none) d) (gval tm a)
noncomputable def gtoX (d:GD):Option GX:=match d with| .one c=>some (.one c)| .ag l=>some (.ag l)| .tup _=>none
noncomputable def gofX (x:GX):GD:=match x with| .one c=>.one c| .ag l=>.ag l
noncomputable def gasD (ag:Bool) (l:List G):Option GD:=
 Bool.rec (List.rec none (fun c t _=>List.rec (some (.one c)) (fun _ _ _=>none) t) l) (some (.ag l)) ag
noncomputable def gobj (hp:List GO) (i:Nat):Option (List G):=match nth hp i with|some (.ob _ _ cs)=>some cs|_=>none
noncomputable def gfill (tm:Tr GD) (zs:List G) (ps:List (Nat×Nat×A)):Option (List G):=
 List.rec (fun zs=>some zs) (fun p _ ih zs=>
  match p with
  |(off,k,a)=>match gcells tm a with
   |some l=>Bool.rec none (ih (splice l off zs)) (Bool.rec false (Nat.ble (off+k) (len zs)) (Nat.beq (len l) k))
   |none=>none) ps zs
noncomputable def gelems (hp:List GO) (c:G):Option (Nat×Nat×List G):=
 match c with
 | .own i k n=>match gobj hp i with|some cs=>Bool.rec none (some (k,n,cs)) (Nat.beq (len cs) (n*k))|none=>none
 | .v (.fz k n l)=>Bool.rec none (some (k,n,mapsV l)) (Nat.beq (len l) (n*k))
 | .v .nil=>some (1,0,[])
 |_=>none
noncomputable def gbnd (tm:Tr GD) (a:Option A) (d:Nat) (n:Nat):Option Nat:=
 match a with
 |none=>some d
 |some a=>match gsc tm a with|some (.int _ j)=>idx j (Nat.succ n)|_=>none
noncomputable def gnew (hp:List GO) (e:Nat) (cs:List G):List GO:=app hp [.ob e false cs]
noncomputable def ggrow (hp:List GO) (e k b:Nat) (x:G) (m:Nat) (cs:List G):Option (GD×List GO):=
 match x with
 | .own i j n=>match nth hp i with
   |some (.ob e' false old)=>Bool.rec none (some (.one (.own (len hp) k (n+m)),gnew (setO hp i .dead) e (app old cs)))
     (Bool.rec false (Bool.rec false (Bool.rec false (Nat.ble ((n+m)*b) room) (Nat.beq j k)) (Nat.beq (len old) (n*k))) (Nat.beq e' e))
   |_=>none
 | .v .nil=>match m with
   |0=>some (.one (.v .nil),hp)
   |_=>Bool.rec none (some (.one (.own (len hp) k m),gnew hp e cs)) (Nat.ble (m*b) room)
 |_=>none
noncomputable def gbyte (g:G):Option Nat:=match g with| .v (.int .u8 (.ofNat m))=>Bool.rec none (some m) (Nat.ble m 255)|_=>none
noncomputable def gcut (tm:Tr GD) (k:Nat) (lo hi:Option A) (k' n:Nat) (l:List U):Option GD:=
 match gbnd tm hi n n with
 |some h=>match gbnd tm lo 0 h with
  |some o=>Bool.rec none (some (.one (.v (.fz k (h-o) (take ((h-o)*k) (drop (o*k) l))))))
    (Bool.rec false (Nat.beq (len l) (n*k)) (Nat.beq k k'))
  |none=>none
 |none=>none
noncomputable def s1 (c:C) (hp:List GO):Option (GD×List GO):=match cG c with|some g=>some (.one g,hp)|none=>none
noncomputable def grd (P:Program) (i:I) (tm:Tr GD) (hp:List GO):Option (GD×List GO):=
 match i with
 | .mv x=>match gval tm x with|some d=>some (d,hp)|none=>none
 | .pick c a b=>match gsc tm c with
   |some (.bool t)=>match gval tm (bif t then a else b)with|some d=>some (d,hp)|none=>none
   |_=>none
 | .alloc e zs=>match each cG zs with|some gs=>some (.one (.loc (len hp) 0),gnew hp e gs)|none=>none
 | .box e k x=>match gcells tm x with
   |some l=>Bool.rec none (some (.one (.loc (len hp) 0),gnew hp e l)) (Nat.beq (len l) k)
   |none=>none
 | .bld zs ps=>match each cG zs with
   |some gs=>match gfill tm gs ps with|some l=>some (.ag l,hp)|none=>none
   |none=>none
 | .bsl e k n zs ps=>match each cG zs with
   |some gs=>match gfill tm (rep n gs) ps with|some l=>some (.one (.own (len hp) k n),gnew hp e l)|none=>none
   |none=>none
 | .ld k ag a=>match gcel tm a with
   |some (.loc i off)=>match gobj hp i with
    |some cs=>match take k (drop off cs)with
     |l=>Bool.rec none (match gasD ag l with|some d=>some (d,hp)|none=>none) (Nat.beq (len l) k)
    |none=>none
   |some (.floc us off)=>match take k (drop off us)with
     |l=>Bool.rec none (match gasD ag (mapsV l)with|some d=>some (d,hp)|none=>none) (Nat.beq (len l) k)
   |_=>none
 | .st k a x=>match gcel tm a with
   |some (.loc i off)=>match nth hp i with
    |some (.ob e false cs)=>match gcells tm x with
     |some l=>Bool.rec none (some (.one (.v .un),setO hp i (.ob e false (splice l off cs)))) (Bool.rec false (Nat.ble (off+k) (len cs)) (Nat.beq (len l) k))
     |none=>none
    |_=>none
   |_=>none
 | .nilc x=>match gcel tm x with
   |some (.loc i off)=>some (.one (.loc i off),hp)
   |some (.floc l off)=>some (.one (.floc l off),hp)
   |_=>none
 | .fa off x=>match gcel tm x with
   |some (.loc i o)=>some (.one (.loc i (o+off)),hp)
   |some (.floc l o)=>some (.one (.floc l (o+off)),hp)
   |_=>none
 | .fd off k ag x=>match gval tm x with
   |some (.ag l)=>match take k (drop off l)with
    |l=>Bool.rec none (match gasD ag l with|some d=>some (d,hp)|none=>none) (Nat.beq (len l) k)
   |_=>none
 | .ias k x ix=>match gcel tm x,gsc tm ix with
   |some (.own i _ n),some (.int _ j)=>match idx j n with|some j=>some (.one (.loc i (j*k)),hp)|none=>none
   |some (.v (.fz _ n l)),some (.int _ j)=>match idx j n with|some j=>some (.one (.floc l (j*k)),hp)|none=>none
   |_,_=>none
 | .iaa n k x ix=>match gcel tm x,gsc tm ix with
   |some (.loc i off),some (.int _ j)=>match idx j n with|some j=>some (.one (.loc i (off+j*k)),hp)|none=>none
   |some (.floc l off),some (.int _ j)=>match idx j n with|some j=>some (.one (.floc l (off+j*k)),hp)|none=>none
   |_,_=>none
 | .ixs x ix=>match gsc tm x,gsc tm ix with
   |some (.str l),some (.int _ (.ofNat j))=>match nth l j with|some b=>some (.one (.v (.int .u8 (.ofNat b))),hp)|none=>none
   |_,_=>none
 | .mk e k n zs=>match each cG zs with|some gs=>some (.one (.own (len hp) k n),gnew hp e (rep n gs))|none=>none
 | .sl k x lo hi=>match gcel tm x with
   |some (.v (.fz k' n l))=>match gcut tm k lo hi k' n l with|some d=>some (d,hp)|none=>none
   |some (.own i k' n)=>match frz 8 hp (.own i k' n)with
    |some (hp',.fz k' n l)=>match gcut tm k lo hi k' n l with|some d=>some (d,hp')|none=>none
    |_=>none
   |some (.v .nil)=>match gbnd tm hi 0 0 with
    |some h=>match gbnd tm lo 0 h with
     |some l=>some (.one (.v .nil),hp)
     |none=>none
    |none=>none
   |_=>none
 | .sls x lo hi=>match gsc tm x with
   |some (.str s)=>match gbnd tm hi (len s) (len s)with
    |some h=>match gbnd tm lo 0 h with
     |some l=>some (.one (.v (.str (take (h-l) (drop l s)))),hp)
     |none=>none
    |none=>none
   |_=>none
 | .ex x ix=>match gval tm x with
   |some (.tup l)=>match nth l ix with|some x=>some (gofX x,hp)|none=>none
   |_=>none
 | .len false x=>match gcel tm x with
   |some (.own _ _ n)=>some (.one (.v (.int .i64 (.ofNat n))),hp)
   |some (.v (.fz _ n _))=>some (.one (.v (.int .i64 (.ofNat n))),hp)
   |some (.v .nil)=>some (.one (.v (.int .i64 0)),hp)
   |_=>none
 | .len true x=>match gsc tm x with
   |some (.str l)=>some (.one (.v (.int .i64 (.ofNat (len l)))),hp)
   |_=>none
 | .ap e k b x y=>match gcel tm x,gcel tm y with
   |some x,some y=>match gelems hp y with
    |some (_,m,cs)=>Bool.rec none (ggrow hp e k b x m cs) (Nat.beq (len cs) (m*k))
    |none=>none
   |_,_=>none
 | .aps e b x y=>match gcel tm x,gsc tm y with
   |some x,some (.str l)=>ggrow hp e 1 b x (len l) (maps (fun n=>.v (.int .u8 (.ofNat n))) l)
   |_,_=>none
 | .apz e k b zs x y=>match gcel tm x,gsc tm y with
   |some x,some (.int _ (.ofNat m))=>match each cG zs with
    |some gs=>Bool.rec none (ggrow hp e k b x m (rep m gs)) (Nat.ble (m*b) room)
    |none=>none
   |_,_=>none
 | .s2b e x=>match gsc tm x with
   |some (.str l)=>some (.one (.own (len hp) 1 (len l)),gnew hp e (maps (fun n=>.v (.int .u8 (.ofNat n))) l))
   |_=>none
 | .b2s x=>match gcel tm x with
   |some c=>match gelems hp c with
    |some (1,_,cs)=>match each gbyte cs with|some l=>some (.one (.v (.str l)),hp)|none=>none
    |_=>none
   |none=>none
 | .bin op t x y=>match gval tm x,gval tm y with
   |some (.one a),some (.one b)=>match gC a,gC b with
    |some a,some b=>match cbin op a b with|some c=>s1 c hp|none=>none
    |_,_=>none
   |some (.ag a),some (.ag b)=>match each gC a,each gC b with
    |some a,some b=>match abin P op t a b with|some c=>s1 c hp|none=>none
    |_,_=>none
   |_,_=>none
 | .beq x y=>match gsc tm x,gsc tm y with
   |some (.bool a),some (.bool b)=>some (.one (.v (.bool (Bool.rec (Bool.rec true false b) b a))),hp)
   |_,_=>none
 | .not x=>match gsc tm x with|some (.bool b)=>some (.one (.v (.bool (Bool.rec true false b))),hp)|_=>none
 | .neg x=>match gsc tm x with
   |some (.int k n)=>some (.one (.v (.int k (k.wrap (BitVec.ofInt k.bits (if k.signed then -1 else k.max)^^^BitVec.ofInt k.bits n).toNat))),hp)
   |_=>none
 | .cvi k x=>match gsc tm x with|some (.int _ n)=>some (.one (.v (.int k (wrapC k n))),hp)|_=>none
 | .cvf x=>match gsc tm x with|some (.int _ n)=>some (.one (.v (.flt (FloatKind.nearest .f64 n))),hp)|_=>none
 | .mn x y=>match gsc tm x,gsc tm y with
   |some (.int k a),some (.int _ b)=>some (.one (.v (.int k (Bool.rec a b (ilt b a)))),hp)
   |_,_=>none
 | .mx x y=>match gsc tm x,gsc tm y with
   |some (.int k a),some (.int _ b)=>some (.one (.v (.int k (Bool.rec a b (ilt a b)))),hp)
   |_,_=>none
 | .call _ _=>none
section
variable{E:En2} {hp:Tr Ob} {g:Tr GD} {tm:Tr D}
theorem cU_ok {fz:Pos→Prop} {c:C} {u:U} (h:cU c=some u):RU fz hp u c:=by
 unfold cU at h
 split at h<;>first|(cases h;rw[RU])|cases h
theorem cG_ok {c:C} {x:G} (h:cG c=some x):RG E hp x c:=by
 unfold cG at h
 split at h
 ·rename_i u hu;cases h;exact cU_ok hu
 ·cases h
theorem toC_ok {fz:Pos→Prop} {u:U} {c c':C} (h:toC u=some c) (hr:RU fz hp u c'):c'=c:=by
 unfold toC at h
 split at h<;>first|(cases h;rw[RU]at hr;exact hr)|cases h
theorem gC_ok {x:G} {c c':C} (h:gC x=some c) (hr:RG E hp x c'):c'=c:=by
 unfold gC at h
 split at h
 ·exact toC_ok h hr
 ·cases h
theorem each_al {α β:Type} {f:α→Option β} {R:β→α→Prop} (hf:∀a b,f a=some b→R b a) {l:List α} {m:List β} (h:each f l=some m):Al R m l:=
 Al.imp (R:=fun y x=>f x=some y) (fun b a e=>hf a b e) (Al.flip (each_spec f l m h))
theorem cGs_ok {l:List C} {m:List G} (h:each cG l=some m):Al (RG E hp) m l:=each_al (R:=RG E hp) (fun a b e=>cG_ok e) h
theorem gCs_ok {l:List G} {m m':List C} (h:each gC l=some m) (hr:Al (RG E hp) l m'):m'=m:=by
 induction l generalizing m m' with
 |nil=>cases hr;rw[each_nil]at h;cases h;rfl
 |cons x l ih=>
  cases hr with
  |cons h1 h2=>
   rw[each_cons]at h
   split at h
   ·rename_i y hy
    split at h
    ·rename_i ys hys
     cases h
     rw[gC_ok hy h1,ih hys h2]
    ·cases h
   ·cases h
theorem dG_ok {d:D} {x:GD} (h:dG d=some x):RD E hp x d:=by
 unfold dG at h
 split at h
 ·split at h
  ·rename_i hu;cases h;exact cG_ok hu
  ·cases h
 ·split at h
  ·rename_i hu;cases h;exact cGs_ok hu
  ·cases h
 ·cases h
theorem gval_ok (hT:RT E hp g tm) {a:A} {d:GD} (h:gval g a=some d):∃d',val tm a=some d'∧RD E hp d d':=by
 cases a with
 |t p=>exact hT p d h
 |c d'=>exact⟨d',rfl,dG_ok h⟩
theorem gcel_val {a:A} {x:G} (h:gcel g a=some x):gval g a=some (.one x):=by
 unfold gcel at h
 cases hv:gval g a with
 |none=>rw[hv]at h;cases h
 |some d=>
  rw[hv]at h
  cases d with
  |one c=>have h:some c=some x:=h;cases h;rfl
  |ag l=>cases h
  |tup l=>cases h
theorem gcel_ok (hT:RT E hp g tm) {a:A} {x:G} (h:gcel g a=some x):∃c,cel tm a=some c∧RG E hp x c:=by
 obtain⟨d',h1,h2⟩:=gval_ok hT (gcel_val h)
 cases d' with
 |one c=>exact⟨c,by unfold cel;rw[h1],h2⟩
 |ag l=>exact h2.elim
 |tup l=>exact h2.elim
theorem gsc_ok (hT:RT E hp g tm) {a:A} {c:C} (h:gsc g a=some c):cel tm a=some c:=by
 unfold gsc at h
 split at h
 ·rename_i x hx
  obtain⟨c',h1,h2⟩:=gcel_ok hT hx;rw[h1,gC_ok h h2]
 ·cases h
theorem glone_ok {x:G} {l:List G} {c:C} (h:glone x=some l) (hr:RG E hp x c):∃l',lone c=some l'∧Al (RG E hp) l l':=by
 have hun:c=.un→x=.v .un:=by
  rintro rfl
  cases x with
  |v u=>
   cases u with
   |un=>rfl
   |fz k n l=>
    have hr:RU E.fz hp (.fz k n l) .un:=hr;rw[RU]at hr;rcases hr with⟨_,_,h|h⟩|⟨_,_,_,h,_⟩|⟨_,_,_,_,h,_⟩|⟨_,_,_,h,_⟩<;>cases h
   |_=>have hr:RU E.fz hp _ .un:=hr;rw[RU]at hr;cases hr
  |own i k n=>obtain⟨_,_,h⟩:=hr;cases h
  |loc i o=>obtain⟨_,_,h⟩:=hr;cases h
  |floc l o=>rcases hr with⟨_,_,_,_,h,_⟩|⟨_,_,_,h,_⟩<;>cases h
 have hx:l=[x]∧x≠.v .un:=by
  unfold glone at h
  split at h
  ·cases h
  ·rename_i hne
   cases h;exact⟨rfl,fun e=>hne e⟩
 obtain⟨rfl,hne⟩:=hx;refine⟨[c],?_,.cons hr .nil⟩;unfold lone
 split
 ·exact absurd (hun rfl) hne
 ·rfl
theorem gcells_ok (hT:RT E hp g tm) {a:A} {l:List G} (h:gcells g a=some l):∃l',cells tm a=some l'∧Al (RG E hp) l l':=by
 unfold gcells at h
 cases hv:gval g a with
 |none=>rw[hv]at h;cases h
 |some d=>
  rw[hv]at h;obtain⟨d',h1,h2⟩:=gval_ok hT hv;unfold cells;rw[h1]
  cases d with
  |one x=>cases d' with
   |one c=>exact glone_ok h h2
   |ag l=>exact h2.elim
   |tup l=>exact h2.elim
  |ag x=>cases d' with
   |one c=>exact h2.elim
   |ag l'=>have h:some x=some l:=h;cases h;exact⟨l',rfl,h2⟩
   |tup l=>exact h2.elim
  |tup x=>cases h
theorem gbnd_ok (hT:RT E hp g tm) {a:Option A} {d n k:Nat} (h:gbnd g a d n=some k):bnd tm a d n=some k:=by
 cases a with
 |none=>exact h
 |some a=>
  simp only[gbnd]at h;simp only[bnd]
  split at h
  ·rename_i j hc;rw[gsc_ok hT hc];exact h
  ·cases h
theorem gasD_ok {ag:Bool} {l:List G} {l':List C} {d:GD} (h:gasD ag l=some d) (hr:Al (RG E hp) l l'):∃d',asD ag l'=some d'∧RD E hp d d':=by
 cases ag with
 |true=>have h:some (GD.ag l)=some d:=h;cases h;exact⟨.ag l',rfl,hr⟩
 |false=>
  cases hr with
  |nil=>cases h
  |cons h1 h2=>
   cases h2 with
   |nil=>rename_i x c;have h:some (GD.one x)=some d:=h;cases h;exact⟨.one c,rfl,h1⟩
   |cons _ _=>cases h
theorem Al.splice {α β:Type} {R:α→β→Prop} {l:List α} {m:List β} {new:List α} {new':List β} (h:Al R l m) (hn:Al R new new') {off:Nat} (ho:off+new.length≤l.length):Al R (splice new off l) (splice new' off m):=by
 refine Al.of (by rw[splice_len,splice_len,h.len]) fun i x y hx hy=>?_
 rw[splice_get _ _ _ ho]at hx;rw[splice_get _ _ _ (by rw[←hn.len,←h.len];exact ho),←hn.len]at hy
 split at hx
 ·rename_i hc;rw[if_pos hc]at hy
  obtain⟨y',e,r⟩:=hn.get hx;rw[hy]at e;cases e;exact r
 ·rename_i hc;rw[if_neg hc]at hy
  obtain⟨y',e,r⟩:=h.get hx;rw[hy]at e;cases e;exact r
theorem Al.rep {α β:Type} {R:α→β→Prop} {l:List α} {m:List β} (h:Al R l m):∀n,Al R (rep n l) (rep n m)
 |0=>.nil
 |n+1=>by rw[rep_succ,rep_succ];exact h.app (Al.rep h n)
theorem gfill_ok (hT:RT E hp g tm):∀{ps:List (Nat×Nat×A)} {zs l:List G} {zs':List C},gfill g zs ps=some l→Al (RG E hp) zs zs'→∃l',fill tm zs' ps=some l'∧Al (RG E hp) l l'
 |[],zs,l,zs',h,hz=>by have h:some zs=some l:=h;cases h;exact⟨zs',rfl,hz⟩
 |(off,k,a)::ps,zs,l,zs',h,hz=>by
  have h:(match gcells g a with
   |some l=>(Bool.rec none (gfill g (splice l off zs) ps) (Bool.rec false (Nat.ble (off+k) (len zs)) (Nat.beq (len l) k):Bool):Option (List G))
   |none=>none)=some l:=h
  show∃l',(match cells tm a with
   |some l=>(Bool.rec none (fill tm (splice l off zs') ps) (Bool.rec false (Nat.ble (off+k) (len zs')) (Nat.beq (len l) k):Bool):Option (List C))
   |none=>none)=some l'∧_
  split at h
  ·rename_i m hm
   obtain⟨m',e,r⟩:=gcells_ok hT hm;rw[e];simp only[];rw[brec']at h⊢;rw[len_eq,len_eq,←hz.len,←r.len];rw[len_eq,len_eq]at h
   split at h
   ·rename_i hb
    rw[if_pos hb];rw[brec']at hb
    split at hb
    ·rename_i hk
     rw[beq_iff]at hk;rw[ble_iff]at hb;exact gfill_ok hT h (hz.splice r (by omega))
    ·cases hb
   ·cases h
  ·cases h
theorem gobj_ok {l:List GO} (hH:RH E l hp) {i:Nat} {cs:List G} (h:gobj l i=some cs):∃p cs',E.φ i=some p∧objc hp p=some cs'∧Al (RG E hp) cs cs':=by
 unfold gobj at h
 split at h
 ·rename_i e fr cs0 hi
  cases h
  rw[nth_eq]at hi;obtain⟨p,cs',h1,h2,h3,_⟩:=hH.ob i e fr cs hi;exact⟨p,cs',h1,by unfold objc;rw[h2],h3⟩
 ·cases h
theorem uB_al (bs:List Nat):Al (RG E hp) ((uB bs).map .v) (maps (fun n=>C.int .u8 (.ofNat n)) bs):=by
 rw[maps_eq];unfold uB
 induction bs with
 |nil=>exact .nil
 |cons x l ih=>exact .cons (by show RU _ _ _ _;rw[RU]) ih
theorem gelems_ok {l:List GO} (hH:RH E l hp) {x:G} {c:C} (hr:RG E hp x c) {k m:Nat} {cs:List G} (h:gelems l x=some (k,m,cs)):∃k' cs',elems hp c=some (k',m,cs')∧Al (RG E hp) cs cs'∧(k=1→k'=1):=by
 unfold gelems at h
 split at h
 ·rename_i i k0 n
  split at h
  ·rename_i cs0 hi
   rw[brec']at h
   split at h
   ·rename_i hb
    cases h
    obtain⟨p,cs',h1,h2,h3⟩:=gobj_ok hH hi;obtain⟨q,h4,rfl⟩:=hr;rw[h1]at h4;cases h4;refine⟨k,cs',?_,h3,id⟩;rw[len_eq,h3.len,←len_eq]at hb;simp only[elems,h2,hb]
   ·cases h
  ·cases h
 ·rename_i k0 n us
  rw[brec']at h
  split at h
  ·rename_i hb
   cases h
   have hr:RU E.fz hp (.fz k m us) c:=hr;rw[RU]at hr;rw[mapsV_eq];rcases hr with⟨rfl,rfl,rfl|rfl⟩|⟨p,e,all,rfl,h2,h3,h4,h5⟩|⟨p,off,e,all,rfl,h2,h3,h4,h5⟩|⟨b,o,bs,rfl,rfl,rfl,rfl⟩
   ·exact⟨1,[],rfl,.nil,fun _=>rfl⟩
   ·exact⟨1,[],rfl,.nil,fun _=>rfl⟩
   ·refine⟨k,all,?_,Al_v (RUL_iff.1 h5),id⟩
    have:Nat.beq (len all) (m*k)=true:=by rw[len_eq,h4];exact Nat.beq_refl _
    simp only[elems,objc,h3,this]
   ·refine⟨k,(all.drop off).take (m*k),?_,Al_v (RUL_iff.1 h5),id⟩
    have:Nat.beq (len ((all.drop off).take (m*k))) (m*k)=true:=by rw[len_eq,List.length_take,List.length_drop,beq_iff];omega
    simp only[elems,objc,h3,take_eq,drop_eq,this]
   ·exact⟨1,_,by simp only[elems,len_eq],uB_al bs,fun _=>rfl⟩
  ·cases h
 ·cases h
  have hr:RU E.fz hp .nil c:=hr;rw[RU]at hr;subst hr;exact⟨1,[],rfl,.nil,fun _=>rfl⟩
 ·cases h
theorem bytes_al (l:List Nat):Al (RG E hp) (maps (fun n=>G.v (.int .u8 (.ofNat n))) l) (maps (fun n=>C.int .u8 (.ofNat n)) l):=by
 rw[maps_eq,maps_eq]
 induction l with
 |nil=>exact .nil
 |cons x l ih=>exact .cons (by show RU _ _ _ _;rw[RU]) ih
theorem gbyte_ok {x:G} {c:C} {b:Nat} (h:gbyte x=some b) (hr:RG E hp x c):byteOf c=some b:=by
 unfold gbyte at h
 split at h
 ·have hr:RU E.fz hp _ c:=hr
  rw[RU]at hr;subst hr;exact h
 ·cases h
theorem gbytes_ok {l:List G} {l':List C} {bs:List Nat} (h:each gbyte l=some bs) (hr:Al (RG E hp) l l'):each byteOf l'=some bs:=by
 induction l generalizing bs l' with
 |nil=>cases hr;exact h
 |cons x l ih=>
  cases hr with
  |cons h1 h2=>
   rw[each_cons]at h⊢
   split at h
   ·rename_i y hy
    split at h
    ·rename_i ys hys
     rw[gbyte_ok hy h1];simp only[ih hys h2];exact h
    ·cases h
   ·cases h
end
end Go.Proofs.YtiahijhpjloijaaGreat.V

namespace Go.Proofs.YtiahijhpjloijaaGreat.V
open Go
def mkI (i:I):Bool:=match i with| .alloc .. | .box .. | .bsl .. | .mk .. | .ap .. | .aps .. | .apz .. | .s2b .. =>true|_=>false
def OpOk (P:Program) (nid:Pos) (i:I) (tm:Tr D) (E:En2) (hp:Tr Ob) (n:Nat) (d:GD) (l':List GO):Prop:=
 ∃d' f hp' E',rd P nid i tm hp=some (d',f)∧fit nid f hp=some hp'∧RD E' hp' d d'∧RH E' l' hp'∧Fra E E' hp hp' (fun p=>mkI i=true∧p=nid)∧(Tr.get nid hp=none→Tr.get nid hp'≠none→E'.φ n=some nid)
section
variable{P:Program} {nid:Pos} {E:En2} {hp:Tr Ob} {g:Tr GD} {tm:Tr D} {l l':List GO} {d:GD}
theorem opPure {i:I} {d':D} (hH:RH E l hp) (h1:rd P nid i tm hp=some (d',.no)) (h2:RD E hp d d'):OpOk P nid i tm E hp l.length d l:=
 ⟨d',.no,hp,E,h1,rfl,h2,hH,.refl _ _ _,fun h h'=>absurd h h'⟩
theorem opNew {i:I} {d':D} {e:Nat} {cs:List G} {cs':List C} (hH:RH E l hp) (hi:mkI i=true) (hn:Tr.get nid hp=none) (h1:rd P nid i tm hp=some (d',.new (.ob e cs'))) (hc:Al (RG E hp) cs cs')
 (h2:∀(E':En2) hp',E'.φ l.length=some nid→RD E' hp' d d'):OpOk P nid i tm E hp l.length d (gnew l e cs):=by
 obtain⟨k1,k2,k3⟩:=new_ok hH hn (e:=e) hc;refine⟨d',_,_,_,h1,?_,h2 _ _ k3,?_,k2.mono fun p e=>⟨hi,e⟩,fun _ _=>k3⟩
 ·simp only[fit,hn]
 ·unfold gnew;rw[app_eq];exact k1
theorem growOk {i:I} {e k b m:Nat} {x:G} {c:C} {cs:List G} {cs':List C} (hH:RH E l hp) (hi:mkI i=true) (hn:Tr.get nid hp=none) (hx:RG E hp x c) (hc:Al (RG E hp) cs cs')
 (h1:rd P nid i tm hp=grow nid e k b c m cs' hp) (h:ggrow l e k b x m cs=some (d,l')):OpOk P nid i tm E hp l.length d l':=by
 unfold ggrow at h
 split at h
 ·rename_i j k0 n
  split at h
  case h_2=>cases h
  rename_i e' old hj;rw[brec']at h
  split at h
  case isFalse=>cases h
  rename_i hb
  cases h
  rw[nth_eq]at hj;obtain⟨p,old',q1,q2,q3,q4⟩:=hH.ob j e' false old hj;obtain⟨p',q5,rfl⟩:=hx;rw[q1]at q5;cases q5;obtain⟨m1,m2⟩:=kill_ok hH hj q1 (· =nid);have hpn:p≠nid:=by rintro rfl;rw[hn]at q2;cases q2
  have hn':Tr.get nid (Tr.set p .dead hp)=none:=by rw[Tr.get_set_ne _ _ hpn];exact hn
  have hold:Al (RG E (Tr.set p .dead hp)) (old++cs) (old'++cs'):=(AlRG_mono m2.more q3).app (AlRG_mono m2.more hc);obtain⟨k1,k2,k3⟩:=new_ok m1 hn' (e:=e) hold;have hee:e'=e:=by
   rw[brec']at hb
   split at hb
   ·rename_i h0;exact(beq_iff _ _).1 h0
   ·cases hb
  have hlen:(len old':Nat)=len old:=by rw[len_eq,len_eq,q3.len]
  refine⟨.one (.own nid k (n+m)),.mv p (.ob e (old'++cs')),_,_,?_,?_,?_,?_,(m2.trans k2).mono fun p e=>⟨hi,e⟩,fun _ _=>by rw[setO_len]at k3;rw[setO_len];exact k3⟩
  ·rw[h1]
   simp only[grow,q2,hlen,hb,app_eq]
  ·simp only[fit,hn]
  ·refine⟨nid,?_,rfl⟩
   rw[setO_len]at k3;rw[len_eq];rw[setO_len];exact k3
  ·unfold gnew;rw[app_eq,app_eq,←hee];rw[hee];exact k1
 ·have hx:RU E.fz hp .nil c:=hx
  rw[RU]at hx;subst hx
  cases m with
  |zero=>
   cases h
   exact opPure hH h1 (by show RU _ _ _ _;rw[RU])
  |succ m=>
   have h:(Bool.rec none (some (.one (.own (len l) k (m+1)),gnew l e cs)) (Nat.ble ((m+1)*b) room):Option (GD×List GO))=some (d,l'):=h;rw[brec']at h
   split at h
   ·rename_i hb
    cases h
    refine opNew hH hi hn (d':=.one (.own nid k (m+1))) (cs':=cs') ?_ hc fun E' hp' h'=>⟨nid,by rw[len_eq];exact h',rfl⟩
    rw[h1];show(Bool.rec none (some (.one (.own nid k (m+1)),.new (.ob e cs'))) (Nat.ble ((m+1)*b) room):Option (D×Ef))=_;rw[brec',if_pos hb]
   ·cases h
 ·cases h
theorem bnd_le {a:Option A} {n k:Nat} (h:bnd tm a n n=some k):k≤n:=by
 cases a with
 |none=>cases h;exact Nat.le_refl _
 |some a=>
  simp only[bnd]at h
  split at h
  ·have:=(idx_ok h).2;omega
  ·cases h
theorem bnd_le0 {a:Option A} {n k:Nat} (h:bnd tm a 0 n=some k):k≤n:=by
 cases a with
 |none=>cases h;exact Nat.zero_le _
 |some a=>
  simp only[bnd]at h
  split at h
  ·have:=(idx_ok h).2;omega
  ·cases h
theorem cut_list {α:Type} (l:List α) {off n k L H:Nat} (h:H≤n) (hL:L≤H):(((l.drop off).take (n*k)).drop (L*k)).take ((H-L)*k)=(l.drop (off+L*k)).take ((H-L)*k):=by
 rw[List.drop_take,List.drop_drop,List.take_take];congr 1;have h1:H*k≤n*k:=Nat.mul_le_mul_right _ h;have h2:L*k≤H*k:=Nat.mul_le_mul_right _ hL;have h3:(H-L)*k=H*k-L*k:=Nat.sub_mul _ _ _;omega
theorem gcutOk (hT:RT E hp g tm) {x:A} {k:Nat} {lo hi:Option A} {k' n:Nat} {us:List U} {c:C} (hc:cel tm x=some c) (hr:RU E.fz hp (.fz k' n us) c) (h:gcut g k lo hi k' n us=some d):
 ∃d',rd P nid (.sl k x lo hi) tm hp=some (d',.no)∧RD E hp d d':=by
 unfold gcut at h
 split at h
 case h_2=>cases h
 rename_i H hH
 split at h
 case h_2=>cases h
 rename_i L hL;rw[brec']at h
 split at h
 case isFalse=>cases h
 rename_i hb
 cases h
 rw[brec']at hb
 split at hb
 case isFalse=>cases hb
 rename_i hk;rw[beq_iff]at hb hk;subst hk;rw[len_eq]at hb;have eH:=gbnd_ok hT hH;have eL:=gbnd_ok hT hL;have hHn:=bnd_le eH;have hLH:=bnd_le0 eL;have hHk:H*k≤n*k:=Nat.mul_le_mul_right _ hHn;have hLk:L*k≤H*k:=Nat.mul_le_mul_right _ hLH;have hsub:(H-L)*k=H*k-L*k:=Nat.sub_mul _ _ _;simp only[rd,hc];rw[take_eq,drop_eq];have nil0:∀{c:C},(c=.nil∨c=.emp)→H-L=0→RD E hp (.one (.v (.fz k (H-L) ((us.drop (L*k)).take ((H-L)*k))))) (.one c):=by
  intro c hc h0;show RU _ _ _ _;rw[RU,h0];exact .inl ⟨rfl,by rw[Nat.zero_mul];rfl,hc⟩
 rw[RU]at hr;rcases hr with⟨rfl,rfl,rfl|rfl⟩|⟨p,e,all,rfl,h2,h3,h4,h5⟩|⟨p,off,e,all,rfl,h2,h3,h4,h5⟩|⟨b,o,bs,rfl,rfl,rfl,rfl⟩
 ·simp only[eH,eL]
  exact⟨_,rfl,nil0 (.inl rfl) (by omega)⟩
 ·simp only[eH,eL]
  exact⟨_,rfl,nil0 (.inr rfl) (by omega)⟩
 ·simp only[eH,eL]
  rw[brec']
  split
  ·rename_i he
   rw[beq_iff]at he;exact⟨_,rfl,nil0 (.inr rfl) (by omega)⟩
  ·refine⟨_,rfl,?_⟩
   show RU _ _ _ _;rw[RU];refine .inr (.inr (.inl ⟨p,L*k,e,all,rfl,h2,h3,by omega,RUL_iff.2 ?_⟩));exact((RUL_iff.1 h5).drop (L*k)).take _
 ·simp only[eH,eL]
  rw[brec']
  split
  ·rename_i he
   rw[beq_iff]at he;exact⟨_,rfl,nil0 (.inr rfl) (by omega)⟩
  ·refine⟨_,rfl,?_⟩
   show RU _ _ _ _;rw[RU];refine .inr (.inr (.inl ⟨p,off+L*k,e,all,rfl,h2,h3,by omega,RUL_iff.2 ?_⟩));have:=((RUL_iff.1 h5).drop (L*k)).take ((H-L)*k);rw[cut_list all hHn hLH]at this;exact this
 ·rw[←len_eq bs]at eH
  simp only[eH,eL,show Nat.beq 1 1=true from rfl];rw[brec']
  split
  ·rename_i he
   rw[beq_iff]at he;exact⟨_,rfl,nil0 (.inr rfl) (by omega)⟩
  ·refine⟨_,rfl,?_⟩
   show RU _ _ _ _;rw[RU];refine .inr (.inr (.inr ⟨b,o+L,(bs.drop L).take (H-L),by rw[take_eq,drop_eq],rfl,?_,?_⟩))
   ·simp;omega
   ·unfold uB;rw[Nat.mul_one,Nat.mul_one,List.map_take,List.map_drop]
theorem RU_nil {fz:Pos→Prop} {c:C} (h:RU fz hp .nil c):c=.nil:=by rw[RU]at h;exact h
theorem s1_ok {i:I} {c:C} (hH:RH E l hp) (h1:rd P nid i tm hp=some (.one c,.no)) (h:s1 c l=some (d,l')):OpOk P nid i tm E hp l.length d l':=by
 unfold s1 at h
 split at h
 ·rename_i x hx
  cases h
  exact opPure hH h1 (cG_ok (E:=E) hx)
 ·cases h
theorem RDv {u:U} {c:C} (h:toC u=some c):RD E hp (.one (.v u)) (.one c):=by
 show RU _ _ _ _;unfold toC at h
 split at h<;>first|(cases h;rw[RU])|cases h
theorem grd_ok1 (hT:RT E hp g tm) (hH:RH E l hp) {i:I} (hn:mkI i=true→Tr.get nid hp=none) (h:grd P i g l=some (d,l')):OpOk P nid i tm E hp l.length d l':=by
 cases i with
 |mv x=>
  simp only[grd]at h
  split at h
  ·rename_i d0 hd
   cases h
   obtain⟨d',h1,h2⟩:=gval_ok hT hd;exact opPure hH (by simp only[rd,h1]) h2
  ·cases h
 |pick c a b=>
  simp only[grd]at h
  split at h
  ·rename_i t ht
   split at h
   ·rename_i d0 hd
    cases h
    obtain⟨d',h1,h2⟩:=gval_ok hT hd;exact opPure hH (by simp only[rd,gsc_ok hT ht,h1]) h2
   ·cases h
  ·cases h
 |alloc e zs=>
  simp only[grd]at h
  split at h
  ·rename_i gs hg
   cases h
   exact opNew hH rfl (hn rfl) (d':=.one (.loc nid 0)) (by simp only[rd]) (cGs_ok hg) fun E' hp' h'=>⟨nid,by rw[len_eq];exact h',rfl⟩
  ·cases h
 |box e k x=>
  simp only[grd]at h
  split at h
  ·rename_i cs hc
   rw[brec']at h
   split at h
   ·rename_i hb
    cases h
    obtain⟨cs',h1,h2⟩:=gcells_ok hT hc;have hb':Nat.beq (len cs') k=true:=by rw[len_eq,←h2.len,←len_eq];exact hb
    exact opNew hH rfl (hn rfl) (d':=.one (.loc nid 0)) (by simp only[rd,h1,hb']) h2 fun E' hp' h'=>⟨nid,by rw[len_eq];exact h',rfl⟩
   ·cases h
  ·cases h
 |bld zs ps=>
  simp only[grd]at h
  split at h
  ·rename_i gs hg
   split at h
   ·rename_i m hm
    cases h
    obtain⟨m',h1,h2⟩:=gfill_ok hT hm (cGs_ok hg);exact opPure hH (d':=.ag m') (by simp only[rd,h1]) h2
   ·cases h
  ·cases h
 |bsl e k n zs ps=>
  simp only[grd]at h
  split at h
  ·rename_i gs hg
   split at h
   ·rename_i m hm
    cases h
    obtain⟨m',h1,h2⟩:=gfill_ok hT hm (Al.rep (cGs_ok hg) n);exact opNew hH rfl (hn rfl) (d':=.one (.own nid k n)) (by simp only[rd,h1]) h2 fun E' hp' h'=>⟨nid,by rw[len_eq];exact h',rfl⟩
   ·cases h
  ·cases h
 |ld k ag a=>
  simp only[grd]at h
  split at h
  ·rename_i i off ha
   split at h
   ·rename_i cs hcs
    rw[brec']at h
    split at h
    ·rename_i hb
     split at h
     ·rename_i d0 hd
      cases h
      obtain⟨c,h1,p,h2,rfl⟩:=gcel_ok hT ha;obtain⟨q,cs',h3,h4,h5⟩:=gobj_ok hH hcs;rw[h2]at h3;cases h3;rw[take_eq,drop_eq]at hd hb;have hal:=(h5.drop off).take k;obtain⟨d',h6,h7⟩:=gasD_ok hd hal;have hb':Nat.beq (len ((cs'.drop off).take k)) k=true:=by rw[len_eq,←hal.len,←len_eq];exact hb
      refine opPure hH (d':=d') ?_ h7;simp only[rd,h1,h4,take_eq,drop_eq,h6,hb']
     ·cases h
    ·cases h
   ·cases h
  ·rename_i us off ha
   rw[brec']at h
   split at h
   ·rename_i hb
    split at h
    ·rename_i d0 hd
     cases h
     obtain⟨c,h1,⟨p,a0,e,all,rfl,h2,h3,h4,h5⟩|⟨b,a0,bs,rfl,rfl⟩⟩:=gcel_ok hT ha
     case inr=>
      have hal:=((uB_al (E:=E) (hp:=hp) bs).drop off).take k;rw[take_eq,drop_eq]at hd hb;rw[mapsV_eq,List.map_take,List.map_drop]at hd;obtain⟨d',h6,h7⟩:=gasD_ok hd hal;have hb':Nat.beq (len (((maps (fun n=>C.int .u8 (.ofNat n)) bs).drop off).take k)) k=true:=by
       rw[len_eq,←hal.len,List.length_take,List.length_drop,List.length_map];rw[len_eq,List.length_take,List.length_drop]at hb;exact hb
      refine opPure hH (d':=d') ?_ h7;simp only[rd,h1,take_eq,drop_eq,h6,hb']
     rw[take_eq,drop_eq]at hd hb;rw[beq_iff,len_eq,List.length_take,List.length_drop]at hb;have hal:=(h5.drop off).take k;have e1:(((all.drop a0).take us.length).drop off).take k=(all.drop (a0+off)).take k:=by
      rw[List.drop_take,List.drop_drop,List.take_take,Nat.min_eq_left (by omega)]
     rw[e1]at hal;rw[mapsV_eq]at hd;obtain⟨d',h6,h7⟩:=gasD_ok hd (Al_v (E:=E) hal);have hb':Nat.beq (len ((all.drop (a0+off)).take k)) k=true:=by
      rw[len_eq,←hal.len,List.length_take,List.length_drop,beq_iff];omega
     refine opPure hH (d':=d') ?_ h7;simp only[rd,h1,objc,h3,take_eq,drop_eq,h6,hb']
    ·cases h
   ·cases h
  ·cases h
 |st k a x=>
  simp only[grd]at h
  split at h
  case h_2=>cases h
  rename_i i off ha
  split at h
  case h_2=>cases h
  rename_i e cs hcs
  split at h
  case h_2=>cases h
  rename_i m hm;rw[brec']at h
  split at h
  case isFalse=>cases h
  rename_i hb
  cases h
  obtain⟨c,h1,p,h2,rfl⟩:=gcel_ok hT ha;rw[nth_eq]at hcs;obtain⟨q,cs',h3,h4,h5,h6⟩:=hH.ob i e false cs hcs;rw[h2]at h3;cases h3;obtain⟨m',h7,h8⟩:=gcells_ok hT hm;rw[brec']at hb
  split at hb
  case isFalse=>cases hb
  rename_i hk;rw[beq_iff,len_eq]at hk;rw[ble_iff,len_eq]at hb;have hal:=h5.splice h8 (off:=off) (by omega);obtain⟨k1,k2⟩:=set_ok hH (e':=e) hcs h2 hal (fun p=>mkI (.st k a x)=true∧p=nid);have hk':Nat.beq (len m') k=true:=by rw[len_eq,←h8.len,beq_iff];exact hk
  have hb':Nat.ble (off+k) (len cs')=true:=by rw[len_eq,←h5.len,ble_iff];exact hb
  refine⟨.one .un,.st p off m',_,E,?_,?_,?_,k1,k2,fun h h'=>?_⟩
  ·simp only[rd,h1,objc,h4,h7,hk',hb']
  ·simp only[fit,h4]
  ·show RU _ _ _ _;rw[RU]
  ·by_cases he:p=nid
   ·subst he;rw[h4]at h;cases h
   ·rw[Tr.get_set_ne _ _ he]at h';exact absurd h h'
 |nilc x=>
  simp only[grd]at h
  split at h
  ·rename_i i off hx
   cases h
   obtain⟨c,h1,p,h2,rfl⟩:=gcel_ok hT hx;exact opPure hH (d':=.one (.loc p off)) (by simp only[rd,h1]) ⟨p,h2,rfl⟩
  ·rename_i us off hx
   cases h
   obtain⟨c,h1,⟨p,a0,e,all,rfl,h2⟩|⟨b,a0,bs,rfl,rfl⟩⟩:=gcel_ok hT hx
   ·exact opPure hH (d':=.one (.loc p (a0+off))) (by simp only[rd,h1]) (.inl ⟨p,a0,e,all,rfl,h2⟩)
   ·exact opPure hH (d':=.one (.fp b a0 bs off)) (by simp only[rd,h1]) (.inr ⟨b,a0,bs,rfl,rfl⟩)
  ·cases h
 |fa off x=>
  simp only[grd]at h
  split at h
  ·rename_i i o hx
   cases h
   obtain⟨c,h1,p,h2,rfl⟩:=gcel_ok hT hx;exact opPure hH (d':=.one (.loc p (o+off))) (by simp only[rd,h1]) ⟨p,h2,rfl⟩
  ·rename_i us o hx
   cases h
   obtain⟨c,h1,⟨p,a0,e,all,rfl,h2⟩|⟨b,a0,bs,rfl,rfl⟩⟩:=gcel_ok hT hx
   ·exact opPure hH (d':=.one (.loc p (a0+o+off))) (by simp only[rd,h1]) (.inl ⟨p,a0,e,all,by rw[Nat.add_assoc],h2⟩)
   ·exact opPure hH (d':=.one (.fp b a0 bs (o+off))) (by simp only[rd,h1]) (.inr ⟨b,a0,bs,rfl,rfl⟩)
  ·cases h
 |fd off k ag x=>
  simp only[grd]at h
  split at h
  ·rename_i cs hcs
   rw[brec']at h
   split at h
   ·rename_i hb
    split at h
    ·rename_i d0 hd
     cases h
     obtain⟨d1,h1,h2⟩:=gval_ok hT hcs
     cases d1 with
     |one c=>exact h2.elim
     |tup c=>exact h2.elim
     |ag cs'=>
      have h2:Al (RG E hp) cs cs':=h2;rw[take_eq,drop_eq]at hd hb;have hal:=(h2.drop off).take k;obtain⟨d',h6,h7⟩:=gasD_ok hd hal;have hb':Nat.beq (len ((cs'.drop off).take k)) k=true:=by rw[len_eq,←hal.len,←len_eq];exact hb
      refine opPure hH (d':=d') ?_ h7;simp only[rd,h1,take_eq,drop_eq,h6,hb']
    ·cases h
   ·cases h
  ·cases h
 |ias k x ix=>
  simp only[grd]at h
  split at h
  ·rename_i i k0 n kj j hx hj
   split at h
   ·rename_i m hm
    cases h
    obtain⟨c,h1,p,h2,rfl⟩:=gcel_ok hT hx;exact opPure hH (d':=.one (.loc p (m*k))) (by simp only[rd,h1,gsc_ok hT hj,hm]) ⟨p,h2,rfl⟩
   ·cases h
  ·rename_i k0 n us kj j hx hj
   split at h
   ·rename_i m hm
    cases h
    obtain⟨c,h1,h2⟩:=gcel_ok hT hx;have h2:RU E.fz hp _ c:=h2;rw[RU]at h2;have:=(idx_ok hm).2;rcases h2 with⟨rfl,rfl,_⟩|⟨p,e,all,rfl,h3,h4,h5,h6⟩|⟨p,off,e,all,rfl,h3,h4,h5,h6⟩|⟨b,o,bs,rfl,rfl,rfl,rfl⟩
    ·omega
    ·have h6:=RUL_iff.1 h6
     refine opPure hH (d':=.one (.loc p (m*k))) (by simp only[rd,h1,gsc_ok hT hj,hm]) (.inl ⟨p,0,e,all,by rw[Nat.zero_add],h3,h4,?_,?_⟩)
     ·have:=h6.len;omega
     ·have:=h6.len
      rw[List.drop_zero,this,List.take_length];exact h6
    ·have h6:=RUL_iff.1 h6
     have hl:=h6.len;rw[List.length_take,List.length_drop]at hl;refine opPure hH (d':=.one (.loc p (off+m*k))) (by simp only[rd,h1,gsc_ok hT hj,hm]) (.inl ⟨p,off,e,all,rfl,h3,h4,by omega,?_⟩);rw[show us.length=n*k0 from by omega];exact h6
    ·exact opPure hH (d':=.one (.fp b o bs (m*k))) (by simp only[rd,h1,gsc_ok hT hj,len_eq,hm]) (.inr ⟨b,o,bs,rfl,rfl⟩)
   ·cases h
  ·cases h
 |iaa n k x ix=>
  simp only[grd]at h
  split at h
  ·rename_i i off kj j hx hj
   split at h
   ·rename_i m hm
    cases h
    obtain⟨c,h1,p,h2,rfl⟩:=gcel_ok hT hx;exact opPure hH (d':=.one (.loc p (off+m*k))) (by simp only[rd,h1,gsc_ok hT hj,hm]) ⟨p,h2,rfl⟩
   ·cases h
  ·rename_i us off kj j hx hj
   split at h
   ·rename_i m hm
    cases h
    obtain⟨c,h1,⟨p,a0,e,all,rfl,h2⟩|⟨b,a0,bs,rfl,rfl⟩⟩:=gcel_ok hT hx
    ·exact opPure hH (d':=.one (.loc p (a0+off+m*k))) (by simp only[rd,h1,gsc_ok hT hj,hm]) (.inl ⟨p,a0,e,all,by rw[Nat.add_assoc],h2⟩)
    ·exact opPure hH (d':=.one (.fp b a0 bs (off+m*k))) (by simp only[rd,h1,gsc_ok hT hj,hm]) (.inr ⟨b,a0,bs,rfl,rfl⟩)
   ·cases h
  ·cases h
 |ixs x ix=>
  simp only[grd]at h
  split at h
  ·rename_i s kj j hx hj
   split at h
   ·rename_i b hb
    cases h
    exact opPure hH (d':=.one (.int .u8 (.ofNat b))) (by simp only[rd,gsc_ok hT hx,gsc_ok hT hj,hb]) (RDv rfl)
   ·cases h
  ·cases h
 |mk e k n zs=>
  simp only[grd]at h
  split at h
  ·rename_i gs hg
   cases h
   exact opNew hH rfl (hn rfl) (d':=.one (.own nid k n)) (by simp only[rd]) (Al.rep (cGs_ok hg) n) fun E' hp' h'=>⟨nid,by rw[len_eq];exact h',rfl⟩
  ·cases h
 |sl k x lo hi=>
  simp only[grd]at h
  split at h
  ·rename_i k0 n us hx
   split at h
   ·rename_i d0 hd
    cases h
    obtain⟨c,h1,h2⟩:=gcel_ok hT hx;obtain⟨d',h3,h4⟩:=gcutOk (P:=P) (nid:=nid) hT h1 h2 hd;exact opPure hH h3 h4
   ·cases h
  ·rename_i i k0 n hx
   split at h
   ·rename_i l1 k1 n1 us hf
    split at h
    ·rename_i d0 hd
     cases h
     obtain⟨c,h1,h2⟩:=gcel_ok hT hx;obtain⟨E1,f1,f2⟩:=frz_ok hH hf h2;have hfra:=f1.fra (fun p=>mkI (.sl k x lo hi)=true∧p=nid);obtain⟨d',h3,h4⟩:=gcutOk (P:=P) (nid:=nid) (RT_mono hfra.more hT) h1 f2 hd;exact⟨d',.no,hp,E1,h3,rfl,h4,f1.rh,hfra,fun h h'=>absurd h h'⟩
    ·cases h
   ·cases h
  ·rename_i hx
   split at h
   ·rename_i H hH'
    split at h
    ·rename_i L hL
     cases h
     obtain⟨c,h1,h2⟩:=gcel_ok hT hx;have:=RU_nil (fz:=E.fz) (hp:=hp) h2;subst this;exact opPure hH (d':=.one .nil) (by simp only[rd,h1,gbnd_ok hT hH',gbnd_ok hT hL]) (RDv rfl)
    ·cases h
   ·cases h
  ·cases h
 |sls x lo hi=>
  simp only[grd]at h
  split at h
  ·rename_i s hx
   split at h
   ·rename_i H hH'
    split at h
    ·rename_i L hL
     cases h
     exact opPure hH (d':=.one (.str (take (H-L) (drop L s)))) (by simp only[rd,gsc_ok hT hx,gbnd_ok hT hH',gbnd_ok hT hL]) (RDv rfl)
    ·cases h
   ·cases h
  ·cases h
 |ex x ix=>
  simp only[grd]at h
  split at h
  ·rename_i m hm
   split at h
   ·rename_i y hy
    cases h
    obtain⟨d1,h1,h2⟩:=gval_ok hT hm
    cases d1 with
    |one c=>exact h2.elim
    |ag c=>exact h2.elim
    |tup m'=>
     have h2:Al (RX E hp) m m':=h2;rw[nth_eq]at hy;obtain⟨y',h3,h4⟩:=h2.get hy;refine opPure hH (d':=ofX y') (by simp only[rd,h1,nth_eq,h3]) ?_
     cases y<;>cases y'<;>first|exact h4|exact h4.elim
   ·cases h
  ·cases h
 |len s x=>
  cases s with
  |false=>
   simp only[grd]at h
   split at h
   ·rename_i i k n hx
    cases h
    obtain⟨c,h1,p,h2,rfl⟩:=gcel_ok hT hx;exact opPure hH (d':=.one (.int .i64 (.ofNat n))) (by simp only[rd,h1]) (RDv rfl)
   ·rename_i k n us hx
    cases h
    obtain⟨c,h1,h2⟩:=gcel_ok hT hx;have h2:RU E.fz hp _ c:=h2;rw[RU]at h2;refine opPure hH (d':=.one (.int .i64 (.ofNat n))) ?_ (RDv rfl);rcases h2 with⟨rfl,rfl,rfl|rfl⟩|⟨p,e,all,rfl,_⟩|⟨p,off,e,all,rfl,_⟩|⟨b,o,bs,rfl,_,rfl,_⟩<;>simp only[rd,h1,len_eq]<;>rfl
   ·rename_i hx
    cases h
    obtain⟨c,h1,h2⟩:=gcel_ok hT hx;have:=RU_nil (fz:=E.fz) (hp:=hp) h2;subst this;exact opPure hH (d':=.one (.int .i64 0)) (by simp only[rd,h1]) (RDv rfl)
   ·cases h
  |true=>
   simp only[grd]at h
   split at h
   ·rename_i s hx
    cases h
    exact opPure hH (d':=.one (.int .i64 (.ofNat (len s)))) (by simp only[rd,gsc_ok hT hx]) (RDv rfl)
   ·cases h
 |ap e k b x y=>
  simp only[grd]at h
  split at h
  ·rename_i x0 y0 hx hy
   split at h
   ·rename_i k0 m cs hc
    rw[brec']at h
    split at h
    ·rename_i hb
     obtain⟨c,h1,h2⟩:=gcel_ok hT hx;obtain⟨c',h3,h4⟩:=gcel_ok hT hy;obtain⟨k',cs',h5,h6,_⟩:=gelems_ok hH h4 hc;have hb':Nat.beq (len cs') (m*k)=true:=by rw[len_eq,←h6.len,←len_eq];exact hb
     exact growOk hH rfl (hn rfl) h2 h6 (by simp only[rd,h1,h3,h5,hb']) h
    ·cases h
   ·cases h
  ·cases h
 |aps e b x y=>
  simp only[grd]at h
  split at h
  ·rename_i x0 s hx hy
   obtain⟨c,h1,h2⟩:=gcel_ok hT hx;exact growOk hH rfl (hn rfl) h2 (bytes_al s) (by simp only[rd,h1,gsc_ok hT hy]) h
  ·cases h
 |apz e k b zs x y=>
  simp only[grd]at h
  split at h
  ·rename_i x0 kj m hx hy
   split at h
   ·rename_i gs hg
    rw[brec']at h
    split at h
    ·rename_i hb
     obtain⟨c,h1,h2⟩:=gcel_ok hT hx;exact growOk hH rfl (hn rfl) h2 (Al.rep (cGs_ok hg) m) (by simp only[rd,h1,gsc_ok hT hy,hb]) h
    ·cases h
   ·cases h
  ·cases h
 |s2b e x=>
  simp only[grd]at h
  split at h
  ·rename_i s hx
   cases h
   exact opNew hH rfl (hn rfl) (d':=.one (.own nid 1 (len s))) (by simp only[rd,gsc_ok hT hx]) (bytes_al s) fun E' hp' h'=>⟨nid,by rw[len_eq];exact h',rfl⟩
  ·cases h
 |b2s x=>
  simp only[grd]at h
  split at h
  ·rename_i x0 hx
   split at h
   ·rename_i m cs hc
    split at h
    ·rename_i bs hbs
     cases h
     obtain⟨c,h1,h2⟩:=gcel_ok hT hx;obtain⟨k',cs',h5,h6,h7⟩:=gelems_ok hH h2 hc;have:=h7 rfl;subst this;exact opPure hH (d':=.one (.str bs)) (by simp only[rd,h1,h5,gbytes_ok hbs h6]) (RDv rfl)
    ·cases h
   ·cases h
  ·cases h
 |bin op t x y=>
  simp only[grd]at h
  split at h
  ·rename_i a b hx hy
   split at h
   ·rename_i ca cb ha hb
    split at h
    ·rename_i c hc
     obtain⟨d1,h1,h2⟩:=gval_ok hT hx;obtain⟨d2,h3,h4⟩:=gval_ok hT hy
     cases d1 with
     |ag _=>exact h2.elim
     |tup _=>exact h2.elim
     |one c1=>cases d2 with
      |ag _=>exact h4.elim
      |tup _=>exact h4.elim
      |one c2=>
       have e1:c1=ca:=gC_ok ha h2;have e2:c2=cb:=gC_ok hb h4;subst e1;subst e2;exact s1_ok hH (by simp only[rd,h1,h3,hc]) h
    ·cases h
   ·cases h
  ·rename_i a b hx hy
   split at h
   ·rename_i ca cb ha hb
    split at h
    ·rename_i c hc
     obtain⟨d1,h1,h2⟩:=gval_ok hT hx;obtain⟨d2,h3,h4⟩:=gval_ok hT hy
     cases d1 with
     |one _=>exact h2.elim
     |tup _=>exact h2.elim
     |ag c1=>cases d2 with
      |one _=>exact h4.elim
      |tup _=>exact h4.elim
      |ag c2=>
       have e1:c1=ca:=gCs_ok ha h2;have e2:c2=cb:=gCs_ok hb h4;subst e1;subst e2;exact s1_ok hH (by simp only[rd,h1,h3,hc]) h
    ·cases h
   ·cases h
  ·cases h
 |beq x y=>
  simp only[grd]at h
  split at h
  ·rename_i a b hx hy
   cases h
   exact opPure hH (d':=.one (.bool _)) (by simp only[rd,gsc_ok hT hx,gsc_ok hT hy]) (RDv rfl)
  ·cases h
 |not x=>
  simp only[grd]at h
  split at h
  ·rename_i b hx
   cases h
   exact opPure hH (d':=.one (.bool _)) (by simp only[rd,gsc_ok hT hx]) (RDv rfl)
  ·cases h
 |neg x=>
  simp only[grd]at h
  split at h
  ·rename_i k n hx
   cases h
   exact opPure hH (d':=.one (.int k _)) (by simp only[rd,gsc_ok hT hx]) (RDv rfl)
  ·cases h
 |cvi k x=>
  simp only[grd]at h
  split at h
  ·rename_i k0 n hx
   cases h
   exact opPure hH (d':=.one (.int k _)) (by simp only[rd,gsc_ok hT hx]) (RDv rfl)
  ·cases h
 |cvf x=>
  simp only[grd]at h
  split at h
  ·rename_i k0 n hx
   cases h
   exact opPure hH (d':=.one (.flt _)) (by simp only[rd,gsc_ok hT hx]) (RDv rfl)
  ·cases h
 |mn x y=>
  simp only[grd]at h
  split at h
  ·rename_i k a k' b hx hy
   cases h
   exact opPure hH (d':=.one (.int k _)) (by simp only[rd,gsc_ok hT hx,gsc_ok hT hy]) (RDv rfl)
  ·cases h
 |mx x y=>
  simp only[grd]at h
  split at h
  ·rename_i k a k' b hx hy
   cases h
   exact opPure hH (d':=.one (.int k _)) (by simp only[rd,gsc_ok hT hx,gsc_ok hT hy]) (RDv rfl)
  ·cases h
 |call f as=>cases h
end
end Go.Proofs.YtiahijhpjloijaaGreat.V

