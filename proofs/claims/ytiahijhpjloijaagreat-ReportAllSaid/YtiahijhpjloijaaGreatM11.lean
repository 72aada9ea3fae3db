/- Parts of the proof, put together: R1, R2, R3, R4, R5. -/
import Derived.Test.YtiahijhpjloijaaGreatM10
set_option linter.unusedVariables false
set_option linter.unusedSimpArgs false
namespace Go.Proofs.YtiahijhpjloijaaGreat.V
open Go
abbrev Lin:=Int×List (Nat×Int)
def evl (ρ:Nat→Int):List (Nat×Int)→Int
 |[]=>0
 |x::l=>x.2*ρ x.1+evl ρ l
def lv (ρ:Nat→Int) (x:Lin):Int:=x.1+evl ρ x.2
noncomputable def lmerge (l:List (Nat×Int)):List (Nat×Int)→List (Nat×Int):=
 List.rec (fun m=>m) (fun x t ih=>fun m=>List.rec (x::t) (fun y t2 ih2=>
  Bool.rec (Bool.rec (Bool.rec ((x.1,Int.add x.2 y.2)::ih t2) (ih t2) (ieq (Int.add x.2 y.2) 0)) (y::ih2) (Nat.ble (Nat.succ y.1) x.1)) (x::ih (y::t2)) (Nat.ble (Nat.succ x.1) y.1)) m) l
noncomputable def ladd (x y:Lin):Lin:=(Int.add x.1 y.1,lmerge x.2 y.2)
noncomputable def lsc (c:Int) (x:Lin):Lin:=(Int.mul c x.1,maps (fun p=>(p.1,Int.mul c p.2)) x.2)
noncomputable def lsub (x y:Lin):Lin:=ladd x (lsc (-1) y)
noncomputable def lK (c:Int):Lin:=(c,[])
noncomputable def lV (v:Nat):Lin:=(0,[(v,1)])
noncomputable def lz (x:Lin):Bool:=List.rec (ieq x.1 0) (fun _ _ _=>false) x.2
section
variable(ρ:Nat→Int)
theorem ilt_iff (a b:Int):ilt a b=true↔a<b:=by rw[ilt_eq];simp
theorem ile_iff (a b:Int):ile a b=true↔a≤b:=by rw[ile_eq];simp
theorem ieq_iff (a b:Int):ieq a b=true↔a=b:=by rw[ieq_eq];simp
theorem lmerge_nil (m:List (Nat×Int)):lmerge [] m=m:=rfl
theorem lmerge_cons_nil (x:Nat×Int) (t:List (Nat×Int)):lmerge (x::t) []=x::t:=rfl
theorem lmerge_cons (x:Nat×Int) (t:List (Nat×Int)) (y:Nat×Int) (t2:List (Nat×Int)):lmerge (x::t) (y::t2)=
 if Nat.ble (Nat.succ x.1) y.1=true then x::lmerge t (y::t2)else if Nat.ble (Nat.succ y.1) x.1=true then y::lmerge (x::t) t2
 else if ieq (Int.add x.2 y.2) 0=true then lmerge t t2 else(x.1,Int.add x.2 y.2)::lmerge t t2:=by
 show(Bool.rec (Bool.rec (Bool.rec ((x.1,Int.add x.2 y.2)::lmerge t t2) (lmerge t t2) (ieq (Int.add x.2 y.2) 0):List (Nat×Int)) (y::lmerge (x::t) t2) (Nat.ble (Nat.succ y.1) x.1):List (Nat×Int)) (x::lmerge t (y::t2)) (Nat.ble (Nat.succ x.1) y.1):List (Nat×Int))=_;rw[brec',brec',brec']
theorem evl_merge:∀(l m:List (Nat×Int)),evl ρ (lmerge l m)=evl ρ l+evl ρ m
 |[],m=>by rw[lmerge_nil];show _=0+_;omega
 |x::t,[]=>by rw[lmerge_cons_nil];show _=_+0;omega
 |x::t,y::t2=>by
  rw[lmerge_cons];have h1:=evl_merge t (y::t2);have h2:=evl_merge (x::t) t2;have h3:=evl_merge t t2
  split
  ·show x.2*ρ x.1+evl ρ (lmerge t (y::t2))=(x.2*ρ x.1+evl ρ t)+_;omega
  ·rename_i n1
   split
   ·show y.2*ρ y.1+evl ρ (lmerge (x::t) t2)=_+(y.2*ρ y.1+evl ρ t2);omega
   ·rename_i n2
    rw[ble_iff]at n1 n2;have e:y.1=x.1:=by omega
    have em:(x.2+y.2)*ρ x.1=x.2*ρ x.1+y.2*ρ x.1:=Int.add_mul _ _ _
    split
    ·rename_i hz
     have hz:x.2+y.2=0:=(ieq_iff _ _).1 hz;rw[hz,Int.zero_mul]at em;show _=(x.2*ρ x.1+evl ρ t)+(y.2*ρ y.1+evl ρ t2);rw[e];omega
    ·show(x.2+y.2)*ρ x.1+evl ρ (lmerge t t2)=(x.2*ρ x.1+evl ρ t)+(y.2*ρ y.1+evl ρ t2)
     rw[e];omega
theorem lv_add (x y:Lin):lv ρ (ladd x y)=lv ρ x+lv ρ y:=by
 show(x.1+y.1)+evl ρ (lmerge x.2 y.2)=(x.1+evl ρ x.2)+(y.1+evl ρ y.2);rw[evl_merge];omega
theorem evl_sc (c:Int):∀l:List (Nat×Int),evl ρ (maps (fun p=>(p.1,Int.mul c p.2)) l)=c*evl ρ l
 |[]=>(Int.mul_zero c).symm
 |x::l=>by
  show(c*x.2)*ρ x.1+evl ρ (maps (fun p=>(p.1,Int.mul c p.2)) l)=c*(x.2*ρ x.1+evl ρ l);rw[evl_sc c l,Int.mul_add,Int.mul_assoc]
theorem lv_sc (c:Int) (x:Lin):lv ρ (lsc c x)=c*lv ρ x:=by
 show c*x.1+evl ρ (maps (fun p=>(p.1,Int.mul c p.2)) x.2)=c*(x.1+evl ρ x.2);rw[evl_sc,Int.mul_add]
theorem lv_sub (x y:Lin):lv ρ (lsub x y)=lv ρ x-lv ρ y:=by
 unfold lsub;rw[lv_add,lv_sc];omega
theorem lv_K (c:Int):lv ρ (lK c)=c:=by show c+0=c;omega
theorem lv_V (v:Nat):lv ρ (lV v)=ρ v:=by show 0+(1*ρ v+0)=ρ v;omega
theorem lz_ok {x:Lin} (h:lz x=true):lv ρ x=0:=by
 obtain⟨c,l⟩:=x
 cases l with
 |nil=>have h:c=0:=(ieq_iff _ _).1 h;show c+0=0;omega
 |cons y l=>cases h
end
inductive BE where
 |tt
 |ff
 |ge (x:Lin)
 |eq (x:Lin)
 |ne (x:Lin)
inductive AC where
 |int (k:IntKind) (x:Lin)
 |bool (b:BE)
 |str (x:Lin)
 |un
 |np
 |nil
 |sl (t:Nat) (ps:List Lin) (n:Lin) (nm:Nat)
 |own (nm k:Nat) (n:Lin)
 |loc (nm off:Nat)
 |eloc (nm k:Nat) (n:Lin) (off:Nat)
 |floc (nm:Nat) (ix:Lin) (k off:Nat)
inductive AX where
 |one (c:AC)
 |ag (l:List AC)
inductive AD where
 |one (c:AC)
 |ag (l:List AC)
 |tup (l:List AX)
 |top
inductive AO where
 |X (e:Nat) (cs:List AC)
 |M (e t:Nat) (ps:List Lin) (n:Lin)
 |F (e t:Nat) (ps:List Lin) (n:Lin) (nm:Nat)
 |dead
structure LoopA where
 tm:List (Pos×AD)
 ob:List (Nat×AO)
 nv:Nat
 fa:List Lin
 rank:Lin
inductive Tok where
 |c (d:Nat) (l:List (Pos×Nat))
 |n (k:Nat)
 |x (l:List (Nat×Lin))
 |lp (a:LoopA)
abbrev Scr:=List Tok
noncomputable def csum (fa:Tr Lin) (l:List (Pos×Nat)):Option Lin:=
 List.rec (some (0,[])) (fun x _ ih=>match Tr.get x.1 fa with
  |some f=>match ih with|some s=>some (ladd (lsc (.ofNat x.2) f) s)|none=>none
  |none=>none) l
noncomputable def ckc (fa:Tr Lin) (x:Lin) (d:Nat) (l:List (Pos×Nat)):Bool:=
 match csum fa l with
 |some s=>match lsub (lsc (.ofNat d) x) s with
  |(c,[])=>Bool.rec false (ilt (Int.neg (.ofNat d)) c) (Nat.ble 1 d)
  |_=>false
 |none=>false
noncomputable def need (fa:Tr Lin) (x:Lin) (s:Scr):Option Scr:=
 match x.2 with
 |[]=>Bool.rec none (some s) (ile 0 x.1)
 |_=>match s with
  | .c d l::s=>Bool.rec none (some s) (ckc fa x d l)
  |_=>none
noncomputable def needs (fa:Tr Lin) (l:List Lin):Scr→Option Scr:=
 List.rec (fun s=>some s) (fun x _ ih s=>match need fa x s with|some s=>ih s|none=>none) l
noncomputable def same (fa:Tr Lin) (x y:Lin) (s:Scr):Option Scr:=
 Bool.rec (needs fa [lsub x y,lsub y x] s) (some s) (lz (lsub x y))
noncomputable def never (fa:Tr Lin) (s:Scr):Option Scr:=
 match s with
 | .c d l::s=>Bool.rec none (some s) (ckc fa (-1,[]) d l)
 |_=>none
def Facts (ρ:Nat→Int) (fa:Tr Lin):Prop:=∀p x,Tr.get p fa=some x→0≤lv ρ x
section
variable{ρ:Nat→Int} {fa:Tr Lin}
theorem csum_ok (h:Facts ρ fa):∀{l:List (Pos×Nat)} {s:Lin},csum fa l=some s→0≤lv ρ s
 |[],s,e=>by have e:some ((0,[]):Lin)=some s:=e;cases e;exact Int.le_refl 0
 |x::l,s,e=>by
  have e:(match Tr.get x.1 fa with
   |some f=>match csum fa l with|some s=>some (ladd (lsc (.ofNat x.2) f) s)|none=>none
   |none=>none)=some s:=e
  split at e
  ·rename_i f hf
   split at e
   ·rename_i s' hs
    cases e
    have h1:=csum_ok h hs;have h2:=h _ _ hf;rw[lv_add,lv_sc];have:0≤(x.2:Int)*lv ρ f:=Int.mul_nonneg (by omega) h2;show 0≤(x.2:Int)*lv ρ f+lv ρ s';omega
   ·cases e
  ·cases e
theorem ckc_ok (h:Facts ρ fa) {x:Lin} {d:Nat} {l:List (Pos×Nat)} (e:ckc fa x d l=true):0≤lv ρ x:=by
 unfold ckc at e
 split at e
 case h_2=>cases e
 rename_i s hs;have h0:=csum_ok h hs
 split at e
 case h_2=>cases e
 rename_i c hc;rw[brec']at e
 split at e
 case isFalse=>cases e
 rename_i hd;rw[ble_iff]at hd;rw[ilt_iff]at e;have h1:=lv_sub ρ (lsc (.ofNat d) x) s;rw[hc,lv_sc]at h1;have h2:lv ρ (c,[])=c:=by show c+0=c;omega
 rw[h2]at h1;have e: -(d:Int)<c:=e;have h1:c=(d:Int)*lv ρ x-lv ρ s:=h1
 by_cases hx:0≤lv ρ x
 ·exact hx
 ·exfalso
  have h3:lv ρ x≤ -1:=by omega
  have h4:(d:Int)*lv ρ x≤(d:Int)*(-1):=Int.mul_le_mul_of_nonneg_left h3 (by omega);omega
theorem need_ok (h:Facts ρ fa) {x:Lin} {s s':Scr} (e:need fa x s=some s'):0≤lv ρ x:=by
 obtain⟨c,l⟩:=x;unfold need at e
 cases l with
 |nil=>
  have e:(Bool.rec none (some s) (ile 0 c):Option Scr)=some s':=e;rw[brec']at e
  split at e
  ·rename_i hc;rw[ile_iff]at hc;show 0≤c+0;omega
  ·cases e
 |cons y l=>
  simp only[]at e
  split at e
  ·rename_i d l' s1
   rw[brec']at e
   split at e
   ·rename_i hc;exact ckc_ok h hc
   ·cases e
  ·cases e
theorem needs_ok (h:Facts ρ fa):∀{l:List Lin} {s s':Scr},needs fa l s=some s'→∀x∈l,0≤lv ρ x
 |[],s,s',e,x,hx=>by cases hx
 |y::l,s,s',e,x,hx=>by
  have e:(match need fa y s with|some s=>needs fa l s|none=>none)=some s':=e
  split at e
  ·rename_i s1 h1
   cases hx with
   |head=>exact need_ok h h1
   |tail _ hx=>exact needs_ok h e x hx
  ·cases e
theorem same_ok (h:Facts ρ fa) {x y:Lin} {s s':Scr} (e:same fa x y s=some s'):lv ρ x=lv ρ y:=by
 unfold same at e;rw[brec']at e
 split at e
 ·rename_i hz
  have:=lz_ok ρ hz;rw[lv_sub]at this;omega
 ·have h1:=needs_ok h e (lsub x y) (by simp)
  have h2:=needs_ok h e (lsub y x) (by simp);rw[lv_sub]at h1 h2;omega
theorem never_ok (h:Facts ρ fa) {s s':Scr} (e:never fa s=some s'):False:=by
 unfold never at e
 split at e
 ·rw[brec']at e
  split at e
  ·rename_i hc
   have h1:=ckc_ok h hc;have:lv ρ (-1,[])= -1:=rfl;omega
  ·cases e
 ·cases e
end
inductive CT where
 |int (k:IntKind)
 |bool
 |str
 |sl (t:Nat) (ps:List Lin)
structure STy where
 cs:List CT
 cons:List Lin
 dps:List Int
def sval (ms pv:List Int) (v:Nat):Int:=(ms++pv).getD v 0
section
variable(T:Nat→Option STy)
def kOf (t:Nat):Option Nat:=(T t).map fun s=>s.cs.length
mutual
inductive CfC:CT→(Nat→Int)→U→Int→Prop
 |int (k:IntKind) (σ:Nat→Int) (n:Int):CfC (.int k) σ (.int k n) n
 |bool (σ:Nat→Int) (b:Bool):CfC .bool σ (.bool b) (if b=true then 0 else -1)
 |str (σ:Nat→Int) (l:List Nat) (h:∀b∈l,b<256):CfC .str σ (.str l) l.length
 |nil (t:Nat) (ps:List Lin) (σ:Nat→Int):CfC (.sl t ps) σ .nil 0
 |fz (t:Nat) (ps:List Lin) (σ:Nat→Int) (k n:Nat) (l:List U) (hk:kOf T t=some k) (hl:l.length=n*k) (h:∀j,j<n→CfE t (ps.map (lv σ)) ((l.drop (j*k)).take k)):CfC (.sl t ps) σ (.fz k n l) n
inductive CfE:Nat→List Int→List U→Prop
 |mk (t:Nat) (pv:List Int) (c:List U) (ty:STy) (ms:List Int) (ht:T t=some ty) (h:CfCs ty.cs (sval ms pv) c ms) (hc:∀x∈ty.cons,0≤lv (sval ms pv) x):CfE t pv c
inductive CfCs:List CT→(Nat→Int)→List U→List Int→Prop
 |nil (σ:Nat→Int):CfCs [] σ [] []
 |cons (ct:CT) (l:List CT) (σ:Nat→Int) (u:U) (us:List U) (m:Int) (ms:List Int) (h:CfC ct σ u m) (t:CfCs l σ us ms):CfCs (ct::l) σ (u::us) (m::ms)
end
def CfL (t:Nat) (pv:List Int) (k n:Nat) (l:List U):Prop:=kOf T t=some k∧l.length=n*k∧∀j,j<n→CfE T t pv ((l.drop (j*k)).take k)
end
section
variable{T:Nat→Option STy}
theorem CfCs.len {l:List CT} {σ:Nat→Int} {us:List U} {ms:List Int} (h:CfCs T l σ us ms):us.length=l.length∧ms.length=l.length:=by
 induction l generalizing us ms with
 |nil=>cases h;exact⟨rfl,rfl⟩
 |cons ct l ih=>
  cases h with
  |cons _ _ _ u us' m ms' h1 h2=>
   obtain⟨a,b⟩:=ih h2;exact⟨by simp[a],by simp[b]⟩
theorem CfE.len {t:Nat} {pv:List Int} {c:List U} {k:Nat} (hk:kOf T t=some k) (h:CfE T t pv c):c.length=k:=by
 cases h with
 |mk _ _ _ ty ms ht h hc=>
  unfold kOf at hk;rw[ht]at hk
  cases hk
  exact h.len.1
theorem drop_app {α:Type} {l m:List α} {n k j:Nat} (hl:l.length=n*k) (hj:n≤j):(l++m).drop (j*k)=m.drop ((j-n)*k):=by
 rw[List.drop_append,hl];have h1:n*k≤j*k:=Nat.mul_le_mul_right _ hj;rw[List.drop_eq_nil_of_le (by omega),List.nil_append,Nat.sub_mul]
theorem take_app {α:Type} {l m:List α} {n k j:Nat} (hl:l.length=n*k) (hj:j<n):((l++m).drop (j*k)).take k=(l.drop (j*k)).take k:=by
 have h1:(j+1)*k≤n*k:=Nat.mul_le_mul_right _ hj;rw[Nat.succ_mul]at h1;rw[List.drop_append,List.take_append];have:k-(List.drop (j*k) l).length=0:=by rw[List.length_drop];omega
 rw[this,List.take_zero,List.append_nil]
theorem CfL.app {t:Nat} {pv:List Int} {k n m:Nat} {l l':List U} (h:CfL T t pv k n l) (h':CfL T t pv k m l'):CfL T t pv k (n+m) (l++l'):=by
 obtain⟨h1,h2,h3⟩:=h;obtain⟨_,h4,h5⟩:=h';refine⟨h1,by rw[List.length_append,h2,h4,Nat.add_mul],fun j hj=>?_⟩;rcases Nat.lt_or_ge j n with hlt|hge
 ·rw[take_app h2 hlt];exact h3 j hlt
 ·rw[drop_app h2 hge];exact h5 _ (by omega)
theorem CfL.sub {t:Nat} {pv:List Int} {k n:Nat} {l:List U} (h:CfL T t pv k n l) {a b:Nat} (hb:b≤n) (ha:a≤b):CfL T t pv k (b-a) ((l.drop (a*k)).take ((b-a)*k)):=by
 obtain⟨h1,h2,h3⟩:=h;have e1:b*k≤n*k:=Nat.mul_le_mul_right _ hb;have e2:a*k≤b*k:=Nat.mul_le_mul_right _ ha;have e3:(b-a)*k=b*k-a*k:=Nat.sub_mul _ _ _;refine⟨h1,by rw[List.length_take,List.length_drop];omega,fun j hj=>?_⟩;have e4:(j+1)*k≤(b-a)*k:=Nat.mul_le_mul_right _ hj;rw[Nat.succ_mul]at e4;have:(((l.drop (a*k)).take ((b-a)*k)).drop (j*k)).take k=(l.drop ((a+j)*k)).take k:=by
  rw[List.drop_take,List.drop_drop,List.take_take,Nat.min_eq_left (by omega),←Nat.add_mul]
 rw[this];exact h3 _ (by omega)
theorem CfL.nil {t:Nat} {pv:List Int} {k:Nat} (hk:kOf T t=some k):CfL T t pv k 0 []:=⟨hk,by simp,fun j hj=>by omega⟩
theorem CfL.one {t:Nat} {pv:List Int} {k:Nat} {c:List U} (hk:kOf T t=some k) (h:CfE T t pv c):CfL T t pv k 1 c:=by
 refine⟨hk,by rw[h.len hk,Nat.one_mul],fun j hj=>?_⟩;have:j=0:=by omega
 subst this;rw[Nat.zero_mul,List.drop_zero,←h.len hk,List.take_length];exact h
theorem CfL.rep {t:Nat} {pv:List Int} {k:Nat} {c:List U} (hk:kOf T t=some k) (h:CfE T t pv c):∀n,CfL T t pv k n (rep n c)
 |0=>.nil hk
 |n+1=>by rw[rep_succ,Nat.add_comm];exact(CfL.one hk h).app (CfL.rep hk h n)
theorem CfL.set {t:Nat} {pv:List Int} {k n:Nat} {l:List U} (h:CfL T t pv k n l) {j:Nat} (hj:j<n) {c:List U} (hc:CfE T t pv c):CfL T t pv k n (splice c (j*k) l):=by
 obtain⟨h1,h2,h3⟩:=h;have hck:=hc.len h1;have e1:(j+1)*k≤n*k:=Nat.mul_le_mul_right _ hj;rw[Nat.succ_mul]at e1;refine⟨h1,by rw[splice_len,h2],fun i hi=>?_⟩;have e2:(i+1)*k≤n*k:=Nat.mul_le_mul_right _ hi;rw[Nat.succ_mul]at e2
 by_cases he:i=j
 ·subst he
  have:((splice c (i*k) l).drop (i*k)).take k=c:=by
   refine List.ext_getElem? fun x=>?_
   rw[List.getElem?_take,List.getElem?_drop,splice_get _ _ _ (by omega)]
   split
   ·rw[if_pos (by omega)];congr 1;omega
   ·rw[List.getElem?_eq_none (by omega)]
  rw[this];exact hc
 ·have:((splice c (j*k) l).drop (i*k)).take k=(l.drop (i*k)).take k:=by
   refine List.ext_getElem? fun x=>?_
   rw[List.getElem?_take,List.getElem?_take,List.getElem?_drop,List.getElem?_drop,splice_get _ _ _ (by omega)]
   split
   ·rw[if_neg]
    intro hx;rcases Nat.lt_or_ge i j with h|h
    ·have:(i+1)*k≤j*k:=Nat.mul_le_mul_right _ h
     rw[Nat.succ_mul]at this;omega
    ·have:(j+1)*k≤i*k:=Nat.mul_le_mul_right _ (by omega)
     rw[Nat.succ_mul]at this;omega
   ·rfl
  rw[this];exact h3 i hi
end
end Go.Proofs.YtiahijhpjloijaaGreat.V

namespace Go.Proofs.YtiahijhpjloijaaGreat.V
open Go
structure Cx where
 P:Program
 T:Nat→Option STy
 ety:Nat→Option Nat
 cmp:TypeId→Bool
structure AEnv where
 ρ:Nat→Int
 ν:Nat→Nat
 on:Nat→Bool
 L:Nat→List U
def Agr (n:Nat) (e e':AEnv):Prop:=∀v,v<n→e'.ρ v=e.ρ v∧e'.ν v=e.ν v∧e'.on v=e.on v∧e'.L v=e.L v
theorem Agr.refl (n:Nat) (e:AEnv):Agr n e e:=fun _ _=>⟨rfl,rfl,rfl,rfl⟩
theorem Agr.mono {m n:Nat} (h:m≤n) {e e':AEnv} (k:Agr n e e'):Agr m e e':=fun v hv=>k v (by omega)
theorem Agr.trans {n:Nat} {a b c:AEnv} (h:Agr n a b) (k:Agr n b c):Agr n a c:=fun v hv=>by
 obtain⟨a1,a2,a3,a4⟩:=h v hv;obtain⟨b1,b2,b3,b4⟩:=k v hv;exact⟨b1.trans a1,b2.trans a2,b3.trans a3,b4.trans a4⟩
def bv (ρ:Nat→Int):BE→Bool
 | .tt=>true
 | .ff=>false
 | .ge x=>decide (0≤lv ρ x)
 | .eq x=>decide (lv ρ x=0)
 | .ne x=>decide (lv ρ x≠0)
inductive AFt where
 |acc (l:List (Bool×Option Nat×Option (Nat×Nat)))
 |call (live:List Nat) (ptr:Option Nat) (lat:List Nat)
structure AS where
 tm:Tr AD
 ob:List (Nat×AO)
 me:List (Nat×Lin×List AC)
 fa:Tr Lin
 nf:Pos
 nv:Nat
 ft:List AFt
noncomputable def findO {α:Type} (nm:Nat) (l:List (Nat×α)):Option α:=List.rec none (fun x _ ih=>Bool.rec ih (some x.2) (Nat.beq x.1 nm)) l
theorem findO_cons {α:Type} (nm m:Nat) (o:α) (l:List (Nat×α)):findO nm ((m,o)::l)=if m=nm then some o else findO nm l:=by
 show(Bool.rec (findO nm l) (some o) (Nat.beq m nm):Option α)=_;rw[brec']
 by_cases h:m=nm
 ·rw[if_pos h,if_pos ((beq_iff _ _).2 h)]
 ·rw[if_neg h,if_neg (fun e=>h ((beq_iff _ _).1 e))]
noncomputable def fact (x:Lin) (σ:AS):AS:={σ with fa:=Tr.set σ.nf x σ.fa,nf:=Pos.succ σ.nf}
noncomputable def facts (l:List Lin) (σ:AS):AS:=List.rec (fun σ=>σ) (fun x _ ih σ=>ih (fact x σ)) l σ
section
variable(X:Cx)
def gaC (e:AEnv):AC→G→Prop
 | .int k x,g=>g=.v (.int k (lv e.ρ x))
 | .bool b,g=>g=.v (.bool (bv e.ρ b))
 | .str x,g=>∃l,g=.v (.str l)∧(l.length:Int)=lv e.ρ x∧∀b∈l,b<256
 | .un,g=>g=.v .un
 | .np,g=>g=.v .np
 | .nil,g=>g=.v .nil
 | .sl t ps n nm,g=>(g=.v .nil∧lv e.ρ n=0)∨∃(k m:Nat),g=.v (.fz k m (e.L nm))∧(m:Int)=lv e.ρ n∧CfL X.T t (ps.map (lv e.ρ)) k m (e.L nm)
 | .own nm k n,g=>(e.on nm=true∧∃m:Nat,(m:Int)=lv e.ρ n∧g=.own (e.ν nm) k m)∨(e.on nm=false∧g=.v .nil∧lv e.ρ n=0)
 | .loc nm off,g=>e.on nm=true∧g=.loc (e.ν nm) off
 | .eloc nm k n off,g=>e.on nm=true∧∃j:Nat,(j:Int)<lv e.ρ n∧g=.loc (e.ν nm) (j*k+off)
 | .floc nm ix k off,g=>∃j:Nat,(j:Int)=lv e.ρ ix∧g=.floc (e.L nm) (j*k+off)
def gaX (e:AEnv):AX→GX→Prop
 | .one c,.one g=>gaC X e c g
 | .ag l,.ag m=>Al (gaC X e) l m
 |_,_=>False
def gaD (e:AEnv):AD→GD→Prop
 | .one c,.one g=>gaC X e c g
 | .ag l,.ag m=>Al (gaC X e) l m
 | .tup l,.tup m=>Al (gaX X e) l m
 |_,_=>False
def gaO (e:AEnv):AO→GO→Prop
 | .X t cs,o=>∃gs,o=.ob t false gs∧Al (gaC X e) cs gs
 | .M e0 t ps n,o=>∃(us:List U) (k m:Nat),o=.ob e0 false (us.map .v)∧(m:Int)=lv e.ρ n∧CfL X.T t (ps.map (lv e.ρ)) k m us
 | .F e0 t ps n nm,o=>∃(k m:Nat),o=.ob e0 true ((e.L nm).map .v)∧(m:Int)=lv e.ρ n∧CfL X.T t (ps.map (lv e.ρ)) k m (e.L nm)
 | .dead,o=>o=.dead
def gaM (e:AEnv) (z:Nat×Lin×List AC):Prop:=∃j:Nat,(j:Int)=lv e.ρ z.2.1∧∃us:List U,((e.L z.1).drop (j*z.2.2.length)).take z.2.2.length=us∧Al (gaC X e) z.2.2 (us.map .v)
structure Holds (e:AEnv) (σ:AS) (g:GS):Prop where
 tm:∀p d,Tr.get p σ.tm=some d→d=.top∨∃d',Tr.get p g.tm=some d'∧gaD X e d d'
 ob:∀nm ao,findO nm σ.ob=some ao→e.on nm=true→∃o,g.hp[e.ν nm]?=some o∧gaO X e ao o
 inj:∀a b,findO a σ.ob≠none→findO b σ.ob≠none→e.on a=true→e.on b=true→e.ν a=e.ν b→a=b
 me:∀z∈σ.me,gaM X e z
 fa:Facts e.ρ σ.fa
def W (e:AEnv) (σ:AS) (g:GS):Prop:=∀e',Agr σ.nv e e'→Holds X e' σ g
noncomputable def cAC (c:C):Option AC:=
 match c with
 | .int k n=>some (.int k (lK n))
 | .bool b=>some (.bool (Bool.rec .ff .tt b))
 | .str l=>Bool.rec none (some (.str (lK (.ofNat (len l))))) (all (fun b=>Nat.ble (Nat.succ b) 256) l)
 | .nil=>some .nil
 | .np=>some .np
 | .un=>some .un
 |_=>none
noncomputable def dAD (d:D):Option AD:=
 match d with
 | .one c=>match cAC c with|some a=>some (.one a)|none=>none
 | .ag l=>match each cAC l with|some a=>some (.ag a)|none=>none
 | .tup _=>none
noncomputable def aval (tm:Tr AD) (a:A):Option AD:=A.rec (fun p=>match Tr.get p tm with|some .top=>none|x=>x) (fun d=>dAD d) a
noncomputable def acel (tm:Tr AD) (a:A):Option AC:=match aval tm a with|some (.one c)=>some c|_=>none
noncomputable def alone (c:AC):Option (List AC):=match c with| .un=>none|c=>some [c]
noncomputable def acells (tm:Tr AD) (a:A):Option (List AC):=match aval tm a with|some (.one c)=>alone c|some (.ag l)=>some l|_=>none
noncomputable def aint (tm:Tr AD) (a:A):Option (IntKind×Lin):=match acel tm a with|some (.int k x)=>some (k,x)|_=>none
noncomputable def abool (tm:Tr AD) (a:A):Option BE:=match acel tm a with|some (.bool b)=>some b|_=>none
noncomputable def aput (dst:Option Pos) (d:AD) (tm:Tr AD):Tr AD:=Option.rec tm (fun p=>Tr.set p d tm) dst
end
section
variable{X:Cx} {e:AEnv} {σ:AS} {g:GS}
theorem W.holds (h:W X e σ g):Holds X e σ g:=h e (.refl _ _)
theorem W.agr {e':AEnv} (h:W X e σ g) (k:Agr σ.nv e e'):W X e' σ g:=fun e2 k2=>h e2 (k.trans k2)
theorem cAC_ok {c:C} {a:AC} {u:U} (h:cAC c=some a) (hu:cU c=some u):gaC X e a (.v u):=by
 cases c<;>simp only[cAC,cU,Option.some.injEq,reduceCtorEq]at h hu
 case str l=>
  subst hu;rw[brec']at h
  split at h
  ·rename_i hb
   cases h
   exact⟨l,rfl,by rw[lv_K,len_eq];rfl,fun b hb'=>(ble_iff _ _).1 (all_true hb b hb')⟩
  ·cases h
 case int k n=>subst h;subst hu;show G.v (.int k n)=.v (.int k (lv e.ρ (lK n)));rw[lv_K]
 case bool b=>subst h;subst hu;cases b<;>rfl
 case nil=>subst h;subst hu;rfl
 case np=>subst h;subst hu;rfl
 case un=>subst h;subst hu;rfl
theorem cACG_ok {c:C} {a:AC} (h:cAC c=some a):∃g,cG c=some g∧gaC X e a g:=by
 have:∃u,cU c=some u:=by cases c<;>first|exact⟨_,rfl⟩|(simp only[cAC,reduceCtorEq]at h)
 obtain⟨u,hu⟩:=this;exact⟨.v u,by unfold cG;rw[hu],cAC_ok h hu⟩
theorem cACs_ok:∀{l:List C} {xs:List AC},each cAC l=some xs→∃gs,each cG l=some gs∧Al (gaC X e) xs gs
 |[],xs,h=>by rw[each_nil]at h;cases h;exact⟨[],rfl,.nil⟩
 |c::l,xs,h=>by
  rw[each_cons]at h
  split at h
  ·rename_i a ha
   split at h
   ·rename_i xs' hxs
    cases h
    obtain⟨g,h1,h2⟩:=cACG_ok (X:=X) (e:=e) ha;obtain⟨gs,h3,h4⟩:=cACs_ok hxs;exact⟨g::gs,by rw[each_cons,h1,h3],.cons h2 h4⟩
   ·cases h
  ·cases h
theorem aval_ok (h:Holds X e σ g) {a:A} {d:AD} (ha:aval σ.tm a=some d):∃d',gval g.tm a=some d'∧gaD X e d d':=by
 cases a with
 |t p=>
  have ha:(match Tr.get p σ.tm with|some .top=>none|x=>x)=some d:=ha
  split at ha
  ·cases ha
  ·rename_i hne
   rcases h.tm p d ha with rfl|h1
   ·exact absurd ha (fun e=>hne e)
   ·exact h1
 |c c=>
  have ha:dAD c=some d:=ha;unfold dAD at ha;show∃d',dG c=some d'∧_;unfold dG
  split at ha
  ·split at ha
   ·rename_i x hx
    cases ha
    obtain⟨g1,h1,h2⟩:=cACG_ok (X:=X) (e:=e) hx;exact⟨.one g1,by simp only[h1],h2⟩
   ·cases ha
  ·split at ha
   ·rename_i x hx
    cases ha
    obtain⟨g1,h1,h2⟩:=cACs_ok (X:=X) (e:=e) hx;exact⟨.ag g1,by simp only[h1],h2⟩
   ·cases ha
  ·cases ha
theorem acel_ok (h:Holds X e σ g) {a:A} {c:AC} (ha:acel σ.tm a=some c):∃x,gcel g.tm a=some x∧gaC X e c x:=by
 unfold acel at ha
 split at ha
 ·rename_i c' hc
  cases ha
  obtain⟨d',h1,h2⟩:=aval_ok h hc
  cases d' with
  |one x=>exact⟨x,by unfold gcel;rw[h1],h2⟩
  |ag _=>exact h2.elim
  |tup _=>exact h2.elim
 ·cases ha
theorem acells_ok (h:Holds X e σ g) {a:A} {l:List AC} (ha:acells σ.tm a=some l):∃m,gcells g.tm a=some m∧Al (gaC X e) l m:=by
 unfold acells at ha
 split at ha
 ·rename_i c hc
  obtain⟨d',h1,h2⟩:=aval_ok h hc
  cases d' with
  |ag _=>exact h2.elim
  |tup _=>exact h2.elim
  |one x=>
   have hx:x≠.v .un:=by
    rintro rfl
    unfold alone at ha
    split at ha
    ·cases ha
    ·rename_i hne
     cases c with
     |un=>exact hne rfl
     |int k x=>cases h2
     |bool b=>cases h2
     |str x=>obtain⟨_,h3,_⟩:=h2;cases h3
     |np=>cases h2
     |nil=>cases h2
     |sl t ps n nm=>rcases h2 with⟨h3,_⟩|⟨_,_,h3,_⟩<;>cases h3
     |own nm k n=>rcases h2 with⟨_,_,_,h3⟩|⟨_,h3,_⟩<;>cases h3
     |loc nm o=>obtain⟨_,h3⟩:=h2;cases h3
     |eloc nm k n o=>obtain⟨_,_,_,h3⟩:=h2;cases h3
     |floc nm ix k o=>obtain⟨_,_,h3⟩:=h2;cases h3
   have hl:l=[c]:=by
    unfold alone at ha
    split at ha
    ·cases ha
    ·cases ha;rfl
   subst hl;refine⟨[x],?_,.cons h2 .nil⟩;unfold gcells;rw[h1];show glone x=some [x];unfold glone
   split
   ·exact absurd rfl hx
   ·rfl
 ·rename_i l' hc
  cases ha
  obtain⟨d',h1,h2⟩:=aval_ok h hc
  cases d' with
  |one _=>exact h2.elim
  |tup _=>exact h2.elim
  |ag m=>exact⟨m,by unfold gcells;rw[h1],h2⟩
 ·cases ha
theorem aint_ok (h:Holds X e σ g) {a:A} {k:IntKind} {x:Lin} (ha:aint σ.tm a=some (k,x)):gsc g.tm a=some (.int k (lv e.ρ x)):=by
 unfold aint at ha
 split at ha
 ·rename_i k' x' hc
  cases ha
  obtain⟨y,h1,h2⟩:=acel_ok h hc;have h2:y=.v (.int k (lv e.ρ x)):=h2;subst h2;unfold gsc;rw[h1];rfl
 ·cases ha
theorem abool_ok (h:Holds X e σ g) {a:A} {b:BE} (ha:abool σ.tm a=some b):gsc g.tm a=some (.bool (bv e.ρ b)):=by
 unfold abool at ha
 split at ha
 ·rename_i b' hc
  cases ha
  obtain⟨y,h1,h2⟩:=acel_ok h hc;have h2:y=.v (.bool (bv e.ρ b)):=h2;subst h2;unfold gsc;rw[h1];rfl
 ·cases ha
theorem Facts.set {ρ:Nat→Int} {fa:Tr Lin} (h:Facts ρ fa) {x:Lin} (hx:0≤lv ρ x) (p:Pos):Facts ρ (Tr.set p x fa):=by
 intro q y hq;rw[Tr.get_set]at hq
 split at hq
 ·cases hq;exact hx
 ·exact h q y hq
theorem fact_ok (h:Holds X e σ g) {x:Lin} (hx:0≤lv e.ρ x):Holds X e (fact x σ) g:=⟨h.tm,h.ob,h.inj,h.me,h.fa.set hx _⟩
theorem facts_ok:∀{l:List Lin} {σ:AS},Holds X e σ g→(∀x∈l,0≤lv e.ρ x)→Holds X e (facts l σ) g
 |[],σ,h,_=>h
 |x::l,σ,h,hl=>facts_ok (l:=l) (σ:=fact x σ) (fact_ok h (hl x List.mem_cons_self)) fun y hy=>hl y (List.mem_cons_of_mem _ hy)
theorem facts_nv:∀(l:List Lin) (σ:AS),(facts l σ).nv=σ.nv
 |[],_=>rfl
 |x::l,σ=>facts_nv l (fact x σ)
theorem facts_tm:∀(l:List Lin) (σ:AS),(facts l σ).tm=σ.tm
 |[],_=>rfl
 |x::l,σ=>facts_tm l (fact x σ)
theorem facts_ob:∀(l:List Lin) (σ:AS),(facts l σ).ob=σ.ob
 |[],_=>rfl
 |x::l,σ=>facts_ob l (fact x σ)
theorem facts_me:∀(l:List Lin) (σ:AS),(facts l σ).me=σ.me
 |[],_=>rfl
 |x::l,σ=>facts_me l (fact x σ)
theorem tm_ok (h:Holds X e σ g) {dst:Option Pos} {d:AD} {d':GD} (hd:d=.top∨gaD X e d d'):Holds X e {σ with tm:=aput dst d σ.tm} {g with tm:=gput dst d' g.tm}:=by
 cases dst with
 |none=>exact⟨h.tm,h.ob,h.inj,h.me,h.fa⟩
 |some p=>
  refine⟨fun q x hq=>?_,h.ob,h.inj,h.me,h.fa⟩;have hq:Tr.get q (Tr.set p d σ.tm)=some x:=hq;show x=.top∨∃d'',Tr.get q (Tr.set p d' g.tm)=some d''∧_;rw[Tr.get_set]at hq⊢
  split at hq
  ·rename_i hpq
   cases hq
   rw[if_pos hpq];rcases hd with hd|hd
   ·exact .inl hd
   ·exact .inr ⟨_,rfl,hd⟩
  ·rename_i hpq
   rw[if_neg hpq];exact h.tm q x hq
end
end Go.Proofs.YtiahijhpjloijaaGreat.V

namespace Go.Proofs.YtiahijhpjloijaaGreat.V
open Go
noncomputable def lneg1 (x:Lin):Lin:=lsub (lK (-1)) x
noncomputable def lsub1 (x:Lin):Lin:=lsub x (lK 1)
noncomputable def lopp (x:Lin):Lin:=lsc (-1) x
noncomputable def beNot (b:BE):BE:=
 match b with
 | .tt=>.ff
 | .ff=>.tt
 | .ge x=>.ge (lneg1 x)
 | .eq x=>.ne x
 | .ne x=>.eq x
noncomputable def aTrue (fa:Tr Lin) (b:BE) (s:Scr):Option Scr:=
 match b with
 | .tt=>some s
 | .ff=>none
 | .ge x=>need fa x s
 | .eq x=>needs fa [x,lopp x] s
 | .ne x=>match s with
   | .n 0::s=>need fa (lsub1 x) s
   | .n 1::s=>need fa (lneg1 x) s
   |_=>none
noncomputable def adec (fa:Tr Lin) (b:BE) (s:Scr):Option (Option Bool×Scr):=
 match b with
 | .tt=>some (some true,s)
 | .ff=>some (some false,s)
 |b=>match s with
  | .n 0::s=>some (none,s)
  | .n 1::s=>match aTrue fa b s with|some s=>some (some true,s)|none=>none
  | .n 2::s=>match aTrue fa (beNot b) s with|some s=>some (some false,s)|none=>none
  |_=>none
noncomputable def assume (b:BE) (σ:AS) (s:Scr):Option (AS×Scr):=
 match b with
 | .tt=>some (σ,s)
 | .ff=>some (σ,s)
 | .ge x=>some (fact x σ,s)
 | .eq x=>some (facts [x,lopp x] σ,s)
 | .ne x=>match s with
   | .n 0::s=>some (σ,s)
   | .n 1::s=>match need σ.fa x s with|some s=>some (fact (lsub1 x) σ,s)|none=>none
   | .n 2::s=>match need σ.fa (lopp x) s with|some s=>some (fact (lneg1 x) σ,s)|none=>none
   |_=>none
noncomputable def abr {α:Type} (b:BE) (σ:AS) (s:Scr) (f:AS→Scr→Option (List α×Scr)):Option (List α×Scr):=
 match assume b σ s with
 |some (σ',s)=>match s with
  | .n 0::s=>f σ' s
  | .n 1::s=>match never σ'.fa s with|some s=>some ([],s)|none=>none
  |_=>none
 |none=>none
noncomputable def asplit {α:Type} (b:BE) (σ:AS) (s:Scr) (f g:AS→Scr→Option (List α×Scr)):Option (List α×Scr):=
 match adec σ.fa b s with
 |some (some true,s)=>f σ s
 |some (some false,s)=>g σ s
 |some (none,s)=>match abr b σ s f with
  |some (l,s)=>match abr (beNot b) σ s g with
   |some (m,s)=>some (app l m,s)
   |none=>none
  |none=>none
 |none=>none
section
variable{X:Cx} {e:AEnv} {σ:AS} {g:GS}
theorem lv_neg1 (ρ:Nat→Int) (x:Lin):lv ρ (lneg1 x)= -1-lv ρ x:=by unfold lneg1;rw[lv_sub,lv_K]
theorem lv_sub1 (ρ:Nat→Int) (x:Lin):lv ρ (lsub1 x)=lv ρ x-1:=by unfold lsub1;rw[lv_sub,lv_K]
theorem lv_opp (ρ:Nat→Int) (x:Lin):lv ρ (lopp x)= -lv ρ x:=by unfold lopp;rw[lv_sc];omega
theorem bv_not (ρ:Nat→Int) (b:BE):bv ρ (beNot b)= !(bv ρ b):=by
 cases b with
 |tt=>rfl
 |ff=>rfl
 |ge x=>
  show decide (0≤lv ρ (lneg1 x))= !(decide (0≤lv ρ x));rw[lv_neg1]
  by_cases h:0≤lv ρ x
  ·rw[decide_eq_true h,decide_eq_false (by omega)];rfl
  ·rw[decide_eq_false h,decide_eq_true (by omega)];rfl
 |eq x=>show decide (lv ρ x≠0)= !(decide (lv ρ x=0));simp
 |ne x=>show decide (lv ρ x=0)= !(decide (lv ρ x≠0));simp
theorem aTrue_ok {ρ:Nat→Int} {fa:Tr Lin} (h:Facts ρ fa) {b:BE} {s s':Scr} (ha:aTrue fa b s=some s'):bv ρ b=true:=by
 cases b with
 |tt=>rfl
 |ff=>cases ha
 |ge x=>exact decide_eq_true (need_ok h ha)
 |eq x=>
  have ha:needs fa [x,lopp x] s=some s':=ha;have h1:=needs_ok h ha x (by simp);have h2:=needs_ok h ha (lopp x) (by simp);rw[lv_opp]at h2;exact decide_eq_true (by omega)
 |ne x=>
  simp only[aTrue]at ha
  split at ha
  ·have h1:=need_ok h ha;rw[lv_sub1]at h1;exact decide_eq_true (by omega)
  ·have h1:=need_ok h ha;rw[lv_neg1]at h1;exact decide_eq_true (by omega)
  ·cases ha
theorem adec_ok {ρ:Nat→Int} {fa:Tr Lin} (h:Facts ρ fa) {b:BE} {s s':Scr} {t:Bool} (ha:adec fa b s=some (some t,s')):bv ρ b=t:=by
 unfold adec at ha
 split at ha
 ·cases ha;rfl
 ·cases ha;rfl
 ·split at ha
  ·cases ha
  ·split at ha
   ·rename_i h1;cases ha;exact aTrue_ok h h1
   ·cases ha
  ·split at ha
   ·rename_i h1
    cases ha
    have:=aTrue_ok h h1;rw[bv_not]at this
    simpa using this
   ·cases ha
  ·cases ha
structure Same (σ σ':AS):Prop where
 tm:σ'.tm=σ.tm
 ob:σ'.ob=σ.ob
 nv:σ'.nv=σ.nv
 ft:σ'.ft=σ.ft
theorem Same.refl (σ:AS):Same σ σ:=⟨rfl,rfl,rfl,rfl⟩
theorem facts_ft:∀(l:List Lin) (σ:AS),(facts l σ).ft=σ.ft
 |[],_=>rfl
 |x::l,σ=>facts_ft l (fact x σ)
theorem assume_ok {b:BE} {s s':Scr} {σ':AS} (ha:assume b σ s=some (σ',s')):Same σ σ'∧∀e,Holds X e σ g→bv e.ρ b=true→Holds X e σ' g:=by
 cases b with
 |tt=>cases ha;exact⟨.refl _,fun e h _=>h⟩
 |ff=>cases ha;exact⟨.refl _,fun e h hb=>by cases hb⟩
 |ge x=>cases ha;exact⟨⟨rfl,rfl,rfl,rfl⟩,fun e h hb=>fact_ok h (of_decide_eq_true hb)⟩
 |eq x=>
  cases ha
  refine⟨⟨facts_tm _ _,facts_ob _ _,facts_nv _ _,facts_ft _ _⟩,fun e h hb=>facts_ok h fun y hy=>?_⟩;have hb:lv e.ρ x=0:=of_decide_eq_true hb;simp only[List.mem_cons,List.mem_nil_iff,or_false]at hy;rcases hy with rfl|rfl
  ·omega
  ·rw[lv_opp];omega
 |ne x=>
  simp only[assume]at ha
  split at ha
  ·cases ha;exact⟨.refl _,fun e h _=>h⟩
  ·split at ha
   ·rename_i h1
    cases ha
    refine⟨⟨rfl,rfl,rfl,rfl⟩,fun e h hb=>fact_ok h ?_⟩;have hb:lv e.ρ x≠0:=of_decide_eq_true hb;have:=need_ok h.fa h1;rw[lv_sub1];omega
   ·cases ha
  ·split at ha
   ·rename_i h1
    cases ha
    refine⟨⟨rfl,rfl,rfl,rfl⟩,fun e h hb=>fact_ok h ?_⟩;have hb:lv e.ρ x≠0:=of_decide_eq_true hb;have:=need_ok h.fa h1;rw[lv_opp]at this;rw[lv_neg1];omega
   ·cases ha
  ·cases ha
theorem abr_ok {α:Type} {Q:α→Prop} {b:BE} {s s':Scr} {f:AS→Scr→Option (List α×Scr)} {l:List α} (hW:W X e σ g) (hb:∀e',Agr σ.nv e e'→bv e'.ρ b=true) (ha:abr b σ s f=some (l,s'))
 (hf:∀σ' s s' l,Same σ σ'→W X e σ' g→f σ' s=some (l,s')→∃x∈l,Q x):∃x∈l,Q x:=by
 unfold abr at ha
 split at ha
 case h_2=>cases ha
 rename_i σ' s1 h1;obtain⟨hs,hk⟩:=assume_ok (X:=X) (g:=g) h1;have hW':W X e σ' g:=fun e' he=>by rw[hs.nv]at he;exact hk e' (hW e' he) (hb e' he)
 split at ha
 ·exact hf _ _ _ _ hs hW' ha
 ·split at ha
  ·rename_i h2;exact(never_ok hW'.holds.fa h2).elim
  ·cases ha
 ·cases ha
theorem asplit_ok {α:Type} {Q:α→Prop} {b:BE} {t:Bool} {s s':Scr} {f f':AS→Scr→Option (List α×Scr)} {l:List α} (hW:W X e σ g) (hb:∀e',Agr σ.nv e e'→bv e'.ρ b=t) (ha:asplit b σ s f f'=some (l,s'))
 (hf:∀σ' s s' l,t=true→Same σ σ'→W X e σ' g→f σ' s=some (l,s')→∃x∈l,Q x) (hf':∀σ' s s' l,t=false→Same σ σ'→W X e σ' g→f' σ' s=some (l,s')→∃x∈l,Q x):∃x∈l,Q x:=by
 unfold asplit at ha
 split at ha
 ·rename_i s1 h1
  exact hf _ _ _ _ ((hb e (.refl _ _)).symm.trans (adec_ok hW.holds.fa h1)) (.refl _) hW ha
 ·rename_i s1 h1
  exact hf' _ _ _ _ ((hb e (.refl _ _)).symm.trans (adec_ok hW.holds.fa h1)) (.refl _) hW ha
 ·split at ha
  case h_2=>cases ha
  rename_i l1 s1 h1
  split at ha
  case h_2=>cases ha
  rename_i l2 s2 h2
  cases ha
  rw[app_eq]
  cases t with
  |true=>
   obtain⟨x,hx,hq⟩:=abr_ok hW hb h1 fun σ' s s' l=>hf σ' s s' l rfl
   exact⟨x,List.mem_append_left _ hx,hq⟩
  |false=>
   obtain⟨x,hx,hq⟩:=abr_ok (Q:=Q) hW (fun e' he=>by rw[bv_not,hb e' he];rfl) h2 fun σ' s s' l=>hf' σ' s s' l rfl
   exact⟨x,List.mem_append_right _ hx,hq⟩
 ·cases ha
end
noncomputable def bump (k:Nat) (σ:AS):AS:={σ with nv:=σ.nv+k}
noncomputable def fresh (mk:Lin→List Lin) (σ:AS):Lin×AS:=(lV σ.nv,facts (mk (lV σ.nv)) (bump 1 σ))
def AEnv.putρ (e:AEnv) (v:Nat) (c:Int):AEnv:={e with ρ:=fun w=>if w=v then c else e.ρ w}
theorem agr_putρ (e:AEnv) (n:Nat) (c:Int):Agr n e (e.putρ n c):=fun v hv=>⟨by show(if v=n then c else e.ρ v)=_;rw[if_neg (by omega)],rfl,rfl,rfl⟩
section
variable{X:Cx} {e:AEnv} {σ:AS} {g:GS}
theorem bump_holds {k:Nat} (h:Holds X e σ g):Holds X e (bump k σ) g:=⟨h.tm,h.ob,h.inj,h.me,h.fa⟩
def OpR (X:Cx) (e:AEnv) (σ:AS) (g:GS) (d':GD) (hp':List GO) (z:AD×AS):Prop:=
 σ.nv≤z.2.nv∧z.2.ft=σ.ft∧∃e1,Agr σ.nv e e1∧∀e',Agr z.2.nv e1 e'→Holds X e' z.2 ⟨g.tm,hp'⟩∧gaD X e' z.1 d'
theorem opR_pure {d:AD} {d':GD} {σ':AS} (hs:Same σ σ') (hW:W X e σ' g) (h:∀e',Agr σ.nv e e'→gaD X e' d d'):OpR X e σ g d' g.hp (d,σ'):=
 ⟨Nat.le_of_eq hs.nv.symm,hs.ft,e,.refl _ _,fun e' he=>⟨hW e' he,h e' (by have he:Agr σ'.nv e e':=he;rw[hs.nv]at he;exact he)⟩⟩
theorem fresh_ok (hW:W X e σ g) {mk:Lin→List Lin} {c:Int} (hm:∀e',Agr σ.nv e e'→e'.ρ σ.nv=c→∀x∈mk (lV σ.nv),0≤lv e'.ρ x):
 ∃e1,Agr σ.nv e e1∧∀e',Agr (σ.nv+1) e1 e'→Holds X e' (fresh mk σ).2 g∧lv e'.ρ (fresh mk σ).1=c∧Agr σ.nv e e':=by
 refine⟨e.putρ σ.nv c,agr_putρ e σ.nv c,fun e' he=>?_⟩;have h1:Agr σ.nv e e':=(agr_putρ e σ.nv c).trans (he.mono (by omega));have h2:e'.ρ σ.nv=c:=by
  rw[(he σ.nv (by omega)).1];show(if σ.nv=σ.nv then c else _)=c;rw[if_pos rfl]
 refine⟨facts_ok (bump_holds (hW e' h1)) (hm e' h1 h2),?_,h1⟩;show lv e'.ρ (lV σ.nv)=c;rw[lv_V];exact h2
theorem fresh_nv (mk:Lin→List Lin) (σ:AS):(fresh mk σ).2.nv=σ.nv+1:=facts_nv _ _
theorem opR_fresh (hW:W X e σ g) {mk:Lin→List Lin} {c:Int} (hm:∀e',Agr σ.nv e e'→e'.ρ σ.nv=c→∀x∈mk (lV σ.nv),0≤lv e'.ρ x) {d:AD} {d':GD}
 (hd:∀e',Agr σ.nv e e'→lv e'.ρ (lV σ.nv)=c→gaD X e' d d'):OpR X e σ g d' g.hp (d,(fresh mk σ).2):=by
 obtain⟨e1,h1,h2⟩:=fresh_ok hW hm;refine⟨by rw[fresh_nv];omega,facts_ft _ _,e1,h1,fun e' he=>?_⟩;have he:Agr (fresh mk σ).2.nv e1 e':=he;rw[fresh_nv]at he;obtain⟨k1,k2,k3⟩:=h2 e' he;exact⟨k1,hd e' k3 k2⟩
end
noncomputable def klo (k:IntKind):Int:=Bool.rec 0 (Int.neg (.ofNat (Nat.succ (top k)))) (sgn k)
noncomputable def khi (k:IntKind):Int:=.ofNat (top k)
theorem int_neg (x:Int):Int.neg x= -x:=rfl
theorem wrap_range (k:IntKind) (n:Int):klo k≤k.wrap n∧k.wrap n≤khi k:=by
 cases k<;>simp[klo,khi,top,sgn,IntKind.wrap,IntKind.bits,IntKind.signed,int_neg]<;>(constructor<;>(try split)<;>omega)
theorem wrapC_range (k:IntKind) (n:Int):klo k≤wrapC k n∧wrapC k n≤khi k:=by rw[wrapC_eq];exact wrap_range k n
theorem wrapC_id (k:IntKind) {n:Int} (h1:klo k≤n) (h2:n≤khi k):wrapC k n=n:=by
 cases n with
 |ofNat m=>
  show(Bool.rec (k.wrap (.ofNat m)) (.ofNat m) (Nat.ble m (top k)):Int)=_;have:Nat.ble m (top k)=true:=by rw[ble_iff];unfold khi at h2;exact Int.ofNat_le.1 h2
  rw[this]
 |negSucc m=>
  show(Bool.rec (k.wrap (.negSucc m)) (.negSucc m) (Bool.rec false (Nat.ble m (top k)) (sgn k):Bool):Int)=_;unfold klo at h1
  cases hs:sgn k with
  |false=>rw[hs]at h1;have h1:(0:Int)≤Int.negSucc m:=h1;omega
  |true=>
   rw[hs]at h1;have h1: -((Nat.succ (top k):Nat):Int)≤Int.negSucc m:=h1;have:Nat.ble m (top k)=true:=by rw[ble_iff];omega
   show(Bool.rec (k.wrap (.negSucc m)) (.negSucc m) (Nat.ble m (top k)):Int)=_;rw[this]
theorem ixor_range (k:IntKind) {a b:Int} (a1:0≤a) (a2:a≤khi k) (b1:0≤b) (b2:b≤khi k):klo k≤ixor k a b∧ixor k a b≤khi k:=by
 obtain⟨m,rfl⟩:∃m:Nat,a=m:=⟨a.toNat,by omega⟩;obtain⟨n,rfl⟩:∃m:Nat,b=m:=⟨b.toNat,by omega⟩;show klo k≤(Bool.rec (k.wrap (BitVec.ofInt k.bits (.ofNat m)^^^BitVec.ofInt k.bits (.ofNat n)).toNat) (.ofNat (Nat.xor m n)) (Bool.rec false (Bool.rec false (Nat.beq (kn k) 3) (Nat.ble n 65535)) (Nat.ble m 65535):Bool):Int)∧(Bool.rec (k.wrap (BitVec.ofInt k.bits (.ofNat m)^^^BitVec.ofInt k.bits (.ofNat n)).toNat) (.ofNat (Nat.xor m n)) (Bool.rec false (Bool.rec false (Nat.beq (kn k) 3) (Nat.ble n 65535)) (Nat.ble m 65535):Bool):Int)≤khi k;rw[brec']
 split
 ·have hm:m<top k+1:=by unfold khi at a2;have:=Int.ofNat_le.1 a2;omega
  have hn:n<top k+1:=by unfold khi at b2;have:=Int.ofNat_le.1 b2;omega
  have hx:Nat.xor m n<top k+1:=by
   have key:∀q,m<2^q→n<2^q→Nat.xor m n<2^q:=fun q h1 h2=>Nat.xor_lt_two_pow h1 h2
   cases k
   ·exact key 7 hm hn
   ·exact key 15 hm hn
   ·exact key 31 hm hn
   ·exact key 63 hm hn
   ·exact key 8 hm hn
   ·exact key 16 hm hn
   ·exact key 32 hm hn
   ·exact key 64 hm hn
  have h1:(0:Int)≤((Nat.xor m n:Nat):Int):=Int.natCast_nonneg _;have h2:klo k≤0:=by cases k<;>simp[klo,top,sgn,int_neg]
  refine⟨Int.le_trans h2 h1,?_⟩;show((Nat.xor m n:Nat):Int)≤((top k:Nat):Int);omega
 ·exact wrap_range k _
noncomputable def arith (k:IntKind) (x:Lin) (σ:AS) (s:Scr):Option (List (AC×AS)×Scr):=
 match s with
 | .n 1::s=>match needs σ.fa [lsub x (lK (klo k)),lsub (lK (khi k)) x] s with|some s=>some ([(.int k x,σ)],s)|none=>none
 | .n 0::s=>match fresh (fun v=>[lsub v (lK (klo k)),lsub (lK (khi k)) v]) σ with|(v,σ')=>some ([(.int k v,σ')],s)
 |_=>none
noncomputable def abool1 (σ:AS) (s:Scr):Option (List (AC×AS)×Scr):=
 match fresh (fun v=>[ladd v (lK 1),lopp v]) σ with|(v,σ')=>some ([(.bool (.ge v),σ')],s)
noncomputable def afree (k:IntKind) (σ:AS) (s:Scr):Option (List (AC×AS)×Scr):=
 match fresh (fun _=>[]) σ with|(v,σ')=>some ([(.int k v,σ')],s)
noncomputable def r1 (c:AC) (σ:AS) (s:Scr):Option (List (AC×AS)×Scr):=some ([(c,σ)],s)
noncomputable def aibin (op:BinOp) (k:IntKind) (a b:Lin) (σ:AS) (s:Scr):Option (List (AC×AS)×Scr):=
 match op with
 | .add=>arith k (ladd a b) σ s
 | .sub=>arith k (lsub a b) σ s
 | .mul=>match a,b with
   |(c,[]),b=>arith k (lsc c b) σ s
   |a,(c,[])=>arith k (lsc c a) σ s
   |_,_=>match fresh (fun v=>[lsub v (lK (klo k)),lsub (lK (khi k)) v]) σ with|(v,σ')=>some ([(.int k v,σ')],s)
 | .quo=>match a,b with
   |(x,[]),(c,[])=>Bool.rec (arith k (lK (Int.tdiv x c)) σ s) none (ieq c 0)
   |a,(c,[])=>Bool.rec none
      (match s with
      | .n 1::s=>match needs σ.fa [a,lsub (lK (khi k)) a] s with
        |some s=>match fresh (fun v=>[v,lsub a (lsc c v),lsub (ladd (lsc c v) (lK (Int.sub c 1))) a]) σ with|(v,σ')=>some ([(.int k v,σ')],s)
        |none=>none
      | .n 0::s=>match fresh (fun v=>[lsub v (lK (klo k)),lsub (lK (khi k)) v]) σ with|(v,σ')=>some ([(.int k v,σ')],s)
      |_=>none) (ilt 0 c)
   |_,b=>match need σ.fa (lsub1 b) s with
    |some s=>match fresh (fun v=>[lsub v (lK (klo k)),lsub (lK (khi k)) v]) σ with|(v,σ')=>some ([(.int k v,σ')],s)
    |none=>none
 | .rem=>match a,b with
   |(x,[]),(c,[])=>Bool.rec (some ([(.int k (lK (Int.tmod x c)),σ)],s)) none (ieq c 0)
   |a,b=>match need σ.fa (lsub1 b) s with
    |some s=>match s with
     | .n 1::s=>match need σ.fa a s with
       |some s=>match fresh (fun v=>[v,lsub1 (lsub b v),lsub a v]) σ with|(v,σ')=>some ([(.int k v,σ')],s)
       |none=>none
     | .n 0::s=>match fresh (fun v=>[lsub1 (lsub b v),lsub1 (ladd b v)]) σ with|(v,σ')=>some ([(.int k v,σ')],s)
     |_=>none
    |none=>none
 | .and=>afree k σ s
 | .xor=>match s with
   | .n 1::s=>match needs σ.fa [a,lsub (lK (khi k)) a,b,lsub (lK (khi k)) b] s with
     |some s=>match fresh (fun v=>[lsub v (lK (klo k)),lsub (lK (khi k)) v]) σ with|(v,σ')=>some ([(.int k v,σ')],s)
     |none=>none
   | .n 0::s=>afree k σ s
   |_=>none
 | .shr=>match need σ.fa b s with|some s=>afree k σ s|none=>none
 | .eql=>r1 (.bool (.eq (lsub a b))) σ s
 | .neq=>r1 (.bool (.ne (lsub a b))) σ s
 | .lss=>r1 (.bool (.ge (lsub1 (lsub b a)))) σ s
 | .leq=>r1 (.bool (.ge (lsub b a))) σ s
 | .gtr=>r1 (.bool (.ge (lsub1 (lsub a b)))) σ s
 | .geq=>r1 (.bool (.ge (lsub a b))) σ s
 |_=>none
section
variable{X:Cx} {e:AEnv} {σ:AS} {g:GS}
def CR (X:Cx) (e:AEnv) (σ:AS) (g:GS) (g':G) (l:List (AC×AS)):Prop:=∃z∈l,OpR X e σ g (.one g') g.hp (.one z.1,z.2)
theorem cr_pure {c:AC} {g':G} (hW:W X e σ g) (h:∀e',Agr σ.nv e e'→gaC X e' c g'):CR X e σ g g' [(c,σ)]:=
 ⟨_,List.mem_cons_self,opR_pure (.refl _) hW h⟩
theorem cr_fresh {c:Int} {a:Lin→AC} {g':G} {mk:Lin→List Lin} (hW:W X e σ g) (hm:∀e',Agr σ.nv e e'→e'.ρ σ.nv=c→∀x∈mk (lV σ.nv),0≤lv e'.ρ x)
 (hd:∀e',Agr σ.nv e e'→lv e'.ρ (lV σ.nv)=c→gaC X e' (a (lV σ.nv)) g'):CR X e σ g g' [(a (fresh mk σ).1,(fresh mk σ).2)]:=
 ⟨_,List.mem_cons_self,opR_fresh hW hm hd⟩
theorem cr_int {k:IntKind} {c:Int} {mk:Lin→List Lin} (hW:W X e σ g) (hm:∀e',Agr σ.nv e e'→e'.ρ σ.nv=c→∀x∈mk (lV σ.nv),0≤lv e'.ρ x):CR X e σ g (.v (.int k c)) [(.int k (fresh mk σ).1,(fresh mk σ).2)]:=
 cr_fresh (a:=.int k) hW hm fun e' he hv=>by show G.v (.int k c)=.v (.int k (lv e'.ρ (lV σ.nv)));rw[hv]
theorem cr_range {k:IntKind} {n:Int} (hW:W X e σ g):CR X e σ g (.v (.int k (wrapC k n))) [(.int k (fresh (fun v=>[lsub v (lK (klo k)),lsub (lK (khi k)) v]) σ).1,(fresh (fun v=>[lsub v (lK (klo k)),lsub (lK (khi k)) v]) σ).2)]:=by
 obtain⟨h1,h2⟩:=wrapC_range k n;refine cr_int hW fun e' he hv x hx=>?_
 simp only[List.mem_cons,List.mem_nil_iff,or_false]at hx;rcases hx with rfl|rfl
 ·rw[lv_sub,lv_V,lv_K,hv];omega
 ·rw[lv_sub,lv_V,lv_K,hv];omega
theorem arith_ok {k:IntKind} {x:Lin} {n:Int} {s s':Scr} {l:List (AC×AS)} (hW:W X e σ g) (hx:∀e',Agr σ.nv e e'→lv e'.ρ x=n) (h:arith k x σ s=some (l,s')):CR X e σ g (.v (.int k (wrapC k n))) l:=by
 unfold arith at h
 split at h
 ·split at h
  ·rename_i h1
   cases h
   refine cr_pure hW fun e' he=>?_
   have a1:=needs_ok (hW e' he).fa h1 (lsub x (lK (klo k))) (by simp);have a2:=needs_ok (hW e' he).fa h1 (lsub (lK (khi k)) x) (by simp);rw[lv_sub,lv_K,hx e' he]at a1 a2;show G.v (.int k (wrapC k n))=.v (.int k (lv e'.ρ x));rw[hx e' he,wrapC_id k (by omega) (by omega)]
  ·cases h
 ·cases h;exact cr_range hW
 ·cases h
theorem abool1_ok {b:Bool} {s s':Scr} {l:List (AC×AS)} (hW:W X e σ g) (h:abool1 σ s=some (l,s')):CR X e σ g (.v (.bool b)) l:=by
 cases h
 refine cr_fresh (a:=fun v=>.bool (.ge v)) (mk:=fun v=>[ladd v (lK 1),lopp v]) (c:=if b=true then 0 else -1) hW (fun e' he hv x hx=>?_) fun e' he hv=>?_
 ·simp only[List.mem_cons,List.mem_nil_iff,or_false]at hx
  rcases hx with rfl|rfl
  ·rw[lv_add,lv_V,lv_K,hv];split<;>omega
  ·rw[lv_opp,lv_V,hv];split<;>omega
 ·show G.v (.bool b)=.v (.bool (decide (0≤lv e'.ρ (lV σ.nv))))
  rw[hv]
  cases b<;>rfl
theorem afree_ok {k:IntKind} {n:Int} {s s':Scr} {l:List (AC×AS)} (hW:W X e σ g) (h:afree k σ s=some (l,s')):CR X e σ g (.v (.int k n)) l:=by
 cases h
 exact cr_int (mk:=fun _=>[]) hW fun e' he hv x hx=>by cases hx
theorem tdiv_nonneg_eq {a b:Int} (ha:0≤a) (hb:0<b):Int.tdiv a b=a/b:=Int.tdiv_eq_ediv_of_nonneg ha
theorem tmod_nonneg_eq {a b:Int} (ha:0≤a):Int.tmod a b=a%b:=Int.tmod_eq_emod_of_nonneg ha
theorem aibin_ok {op:BinOp} {k:IntKind} {a b:Lin} {x y:Int} {s s':Scr} {l:List (AC×AS)} (hW:W X e σ g) (ha:∀e',Agr σ.nv e e'→lv e'.ρ a=x) (hb:∀e',Agr σ.nv e e'→lv e'.ρ b=y)
 (h:aibin op k a b σ s=some (l,s')):(op=.shr∧0≤y∧∀n,CR X e σ g (.v (.int k n)) l)∨(op≠.shr∧∃c u,ibin op k x y=some c∧cU c=some u∧CR X e σ g (.v u) l):=by
 have hA:=ha e (.refl _ _);have hB:=hb e (.refl _ _)
 cases op with
 |add=>exact .inr ⟨by simp,_,_,rfl,rfl,arith_ok hW (fun e' he=>by rw[lv_add,ha e' he,hb e' he];rfl) h⟩
 |sub=>exact .inr ⟨by simp,_,_,rfl,rfl,arith_ok hW (fun e' he=>by rw[lv_sub,ha e' he,hb e' he];rfl) h⟩
 |mul=>
  refine .inr ⟨by simp,_,_,rfl,rfl,?_⟩;simp only[aibin]at h
  split at h
  ·rename_i b1 c
   refine arith_ok hW (fun e' he=>?_) h;have:=ha e' he;have hc:lv e'.ρ (c,[])=c:=by show c+0=c;omega
   rw[hc]at this;rw[lv_sc,hb e' he,this];rfl
  ·rename_i a1 b1 c hne
   refine arith_ok hW (fun e' he=>?_) h;have:=hb e' he;have hc:lv e'.ρ (c,[])=c:=by show c+0=c;omega
   rw[hc]at this;rw[lv_sc,ha e' he,this,Int.mul_comm];rfl
  ·cases h;exact cr_range hW
 |quo=>
  simp only[aibin]at h
  split at h
  ·rename_i x0 c
   rw[brec']at h
   split at h
   ·cases h
   ·rename_i hc
    have hx0:x0=x:=by rw[←hA];show x0=x0+0;omega
    have hc0:c=y:=by rw[←hB];show c=c+0;omega
    subst hx0;subst hc0;refine .inr ⟨by simp,.int k (wrapC k (Int.tdiv x0 c)),.int k (wrapC k (Int.tdiv x0 c)),?_,rfl,arith_ok hW (fun e' he=>lv_K _ _) h⟩;show(Bool.rec (some (.int k (wrapC k (Int.tdiv x0 c)))) none (ieq c 0):Option C)=_;rw[brec',if_neg hc]
  ·rename_i a1 b1 c hne
   rw[brec']at h
   split at h
   case isFalse=>cases h
   rename_i hc;rw[ilt_iff]at hc;have hc0:c=y:=by rw[←hB];show c=c+0;omega
   subst hc0;have hq:ibin .quo k x c=some (.int k (wrapC k (Int.tdiv x c))):=by
    show(Bool.rec (some (.int k (wrapC k (Int.tdiv x c)))) none (ieq c 0):Option C)=_;rw[brec',if_neg];rw[ieq_iff];omega
   split at h
   ·split at h
    case h_2=>cases h
    rename_i s1 h1
    cases h
    have a1':=needs_ok hW.holds.fa h1 a (by simp);have a2':=needs_ok hW.holds.fa h1 (lsub (lK (khi k)) a) (by simp);rw[lv_sub,lv_K,hA]at a2';rw[hA]at a1';have hd:Int.tdiv x c=x/c:=tdiv_nonneg_eq a1' hc;have d1:0≤x/c:=Int.ediv_nonneg a1' (by omega);have d2:x/c*c≤x:=Int.ediv_mul_le x (by omega);have d3:x<(x/c+1)*c:=by rw[Int.add_mul,Int.one_mul];have:=Int.lt_ediv_add_one_mul_self x hc;rw[Int.add_mul,Int.one_mul]at this;exact this
    have d4:x/c≤x:=Int.ediv_le_self _ a1';have lo:klo k≤0:=by cases k<;>decide
    have hw:wrapC k (Int.tdiv x c)=x/c:=by rw[hd];exact wrapC_id k (by omega) (by omega)
    refine .inr ⟨by simp,_,_,hq,rfl,?_⟩;rw[hw];refine cr_int hW fun e' he hv z hz=>?_
    simp only[List.mem_cons,List.mem_nil_iff,or_false]at hz;rw[Int.add_mul,Int.one_mul]at d3;have mc:c*(x/c)=x/c*c:=Int.mul_comm _ _;rcases hz with rfl|rfl|rfl
    ·rw[lv_V,hv];exact d1
    ·rw[lv_sub,ha e' he,lv_sc,lv_V,hv];omega
    ·rw[lv_sub,lv_add,lv_sc,lv_V,lv_K,ha e' he,hv]
     show 0≤c*(x/c)+(c-1)-x;omega
   ·cases h;exact .inr ⟨by simp,_,_,hq,rfl,cr_range hW⟩
   ·cases h
  ·rename_i a1 b1 hne1 hne2
   split at h
   case h_2=>cases h
   rename_i s1 h1
   cases h
   have a1':=need_ok hW.holds.fa h1;rw[lv_sub1,hB]at a1';refine .inr ⟨by simp,.int k (wrapC k (Int.tdiv x y)),_,?_,rfl,cr_range hW⟩;show(Bool.rec (some (.int k (wrapC k (Int.tdiv x y)))) none (ieq y 0):Option C)=_;rw[brec',if_neg];rw[ieq_iff];omega
 |rem=>
  simp only[aibin]at h
  split at h
  ·rename_i x0 c
   rw[brec']at h
   split at h
   ·cases h
   ·rename_i hc
    have hx0:x0=x:=by rw[←hA];show x0=x0+0;omega
    have hc0:c=y:=by rw[←hB];show c=c+0;omega
    subst hx0;subst hc0
    cases h
    refine .inr ⟨by simp,.int k (Int.tmod x0 c),.int k (Int.tmod x0 c),?_,rfl,cr_pure hW fun e' he=>?_⟩
    ·show(Bool.rec (some (.int k (Int.tmod x0 c))) none (ieq c 0):Option C)=_
     rw[brec',if_neg hc]
    ·show G.v (.int k (Int.tmod x0 c))=.v (.int k (lv e'.ρ (lK _)));rw[lv_K]
  ·split at h
   case h_2=>cases h
   rename_i s1 h1;have a1':=need_ok hW.holds.fa h1;rw[lv_sub1,hB]at a1';have hq:ibin .rem k x y=some (.int k (Int.tmod x y)):=by
    show(Bool.rec (some (.int k (Int.tmod x y))) none (ieq y 0):Option C)=_;rw[brec',if_neg];rw[ieq_iff];omega
   split at h
   ·split at h
    case h_2=>cases h
    rename_i s2 h2
    cases h
    have a2':=need_ok hW.holds.fa h2;rw[hA]at a2';refine .inr ⟨by simp,_,_,hq,rfl,?_⟩;rw[tmod_nonneg_eq a2'];have d1:0≤x%y:=Int.emod_nonneg x (by omega);have d2:x%y<y:=Int.emod_lt_of_pos x (by omega);have d3:x%y≤x:=by
     have h5:=Int.emod_add_mul_ediv x y;have h6:0≤y*(x/y):=Int.mul_nonneg (by omega) (Int.ediv_nonneg a2' (by omega));omega
    refine cr_int hW fun e' he hv z hz=>?_
    simp only[List.mem_cons,List.mem_nil_iff,or_false]at hz;rcases hz with rfl|rfl|rfl
    ·rw[lv_V,hv];exact d1
    ·rw[lv_sub1,lv_sub,hb e' he,lv_V,hv];omega
    ·rw[lv_sub,ha e' he,lv_V,hv];omega
   ·cases h
    refine .inr ⟨by simp,_,_,hq,rfl,?_⟩;have hlt:Int.tmod x y<y:=Int.tmod_lt_of_pos x (by omega);have hgt: -y<Int.tmod x y:=by
     rcases Int.le_total 0 x with hx|hx
     ·rw[tmod_nonneg_eq hx];have:=Int.emod_nonneg x (show y≠0 by omega);omega
     ·have h7:Int.tmod (-x) y= -Int.tmod x y:=Int.neg_tmod x y
      have h8:=Int.tmod_lt_of_pos (-x) (show 0<y by omega);omega
    refine cr_int hW fun e' he hv z hz=>?_
    simp only[List.mem_cons,List.mem_nil_iff,or_false]at hz;rcases hz with rfl|rfl
    ·rw[lv_sub1,lv_sub,hb e' he,lv_V,hv];omega
    ·rw[lv_sub1,lv_add,hb e' he,lv_V,hv];omega
   ·cases h
 |and=>exact .inr ⟨by simp,_,_,rfl,rfl,afree_ok hW h⟩
 |xor=>
  simp only[aibin]at h
  split at h
  ·split at h
   case h_2=>cases h
   rename_i s1 h1
   cases h
   have b1:=needs_ok hW.holds.fa h1 a (by simp);have b2:=needs_ok hW.holds.fa h1 (lsub (lK (khi k)) a) (by simp);have b3:=needs_ok hW.holds.fa h1 b (by simp);have b4:=needs_ok hW.holds.fa h1 (lsub (lK (khi k)) b) (by simp);rw[lv_sub,lv_K,hA]at b2;rw[lv_sub,lv_K,hB]at b4;rw[hA]at b1;rw[hB]at b3;obtain⟨r1,r2⟩:=ixor_range k b1 (by omega) b3 (by omega);refine .inr ⟨by simp,_,_,rfl,rfl,cr_int hW fun e' he hv z hz=>?_⟩;simp only[List.mem_cons,List.mem_nil_iff,or_false]at hz;rcases hz with rfl|rfl
   ·rw[lv_sub,lv_K,lv_V,hv];omega
   ·rw[lv_sub,lv_K,lv_V,hv];omega
  ·exact .inr ⟨by simp,_,_,rfl,rfl,afree_ok hW h⟩
  ·cases h
 |shr=>
  simp only[aibin]at h
  split at h
  ·rename_i h1
   have a1':=need_ok hW.holds.fa h1;rw[hB]at a1';exact .inl ⟨rfl,a1',fun n=>afree_ok hW h⟩
  ·cases h
 |eql=>
  cases h
  refine .inr ⟨by simp,.bool (ieq x y),.bool (ieq x y),rfl,rfl,cr_pure hW fun e' he=>?_⟩;show G.v (.bool (ieq x y))=.v (.bool (decide (lv e'.ρ (lsub a b)=0)));rw[lv_sub,ha e' he,hb e' he,ieq_eq];congr 3;exact propext (by omega)
 |neq=>
  cases h
  refine .inr ⟨by simp,.bool (not (ieq x y)),.bool (not (ieq x y)),rfl,rfl,cr_pure hW fun e' he=>?_⟩;show G.v (.bool (not (ieq x y)))=.v (.bool (decide (lv e'.ρ (lsub a b)≠0)));rw[lv_sub,ha e' he,hb e' he,ieq_eq]
  by_cases hxy:x=y
  ·subst hxy;simp
  ·rw[decide_eq_false hxy,decide_eq_true (by omega)];rfl
 |lss=>
  cases h
  refine .inr ⟨by simp,.bool (ilt x y),.bool (ilt x y),rfl,rfl,cr_pure hW fun e' he=>?_⟩;show G.v (.bool (ilt x y))=.v (.bool (decide (0≤lv e'.ρ (lsub1 (lsub b a)))));rw[lv_sub1,lv_sub,ha e' he,hb e' he,ilt_eq];congr 3;exact propext (by omega)
 |leq=>
  cases h
  refine .inr ⟨by simp,.bool (ile x y),.bool (ile x y),rfl,rfl,cr_pure hW fun e' he=>?_⟩;show G.v (.bool (ile x y))=.v (.bool (decide (0≤lv e'.ρ (lsub b a))));rw[lv_sub,ha e' he,hb e' he,ile_eq];congr 3;exact propext (by omega)
 |gtr=>
  cases h
  refine .inr ⟨by simp,.bool (ilt y x),.bool (ilt y x),rfl,rfl,cr_pure hW fun e' he=>?_⟩;show G.v (.bool (ilt y x))=.v (.bool (decide (0≤lv e'.ρ (lsub1 (lsub a b)))));rw[lv_sub1,lv_sub,ha e' he,hb e' he,ilt_eq];congr 3;exact propext (by omega)
 |geq=>
  cases h
  refine .inr ⟨by simp,.bool (ile y x),.bool (ile y x),rfl,rfl,cr_pure hW fun e' he=>?_⟩;show G.v (.bool (ile y x))=.v (.bool (decide (0≤lv e'.ρ (lsub a b))));rw[lv_sub,ha e' he,hb e' he,ile_eq];congr 3;exact propext (by omega)
 |_=>cases h
end
end Go.Proofs.YtiahijhpjloijaaGreat.V

namespace Go.Proofs.YtiahijhpjloijaaGreat.V
open Go
noncomputable def sbF (f:Nat→Option Lin) (x:Lin):Option Lin:=
 List.rec (some (lK x.1)) (fun p _ ih=>match f p.1 with
  |some y=>match ih with|some z=>some (ladd (lsc p.2 y) z)|none=>none
  |none=>none) x.2
noncomputable def llt (n:Nat) (x:Lin):Bool:=all (fun p=>Nat.ble (Nat.succ p.1) n) x.2
theorem sbF_ok {f:Nat→Option Lin} {ρ ρ':Nat→Int}:∀{c:Int} {l:List (Nat×Int)} {q:Lin},sbF f (c,l)=some q→(∀p∈l,∀y,f p.1=some y→lv ρ y=ρ' p.1)→lv ρ q=lv ρ' (c,l)
 |c,[],q,h,hf=>by have h:some (lK c)=some q:=h;cases h;rw[lv_K];show c=c+0;omega
 |c,p::l,q,h,hf=>by
  have h:(match f p.1 with
   |some y=>match sbF f (c,l)with|some z=>some (ladd (lsc p.2 y) z)|none=>none
   |none=>none)=some q:=h
  split at h
  ·rename_i y hy
   split at h
   ·rename_i z hz
    cases h
    rw[lv_add,lv_sc,sbF_ok hz fun p hp=>hf p (List.mem_cons_of_mem _ hp),hf p List.mem_cons_self y hy];show p.2*ρ' p.1+(c+evl ρ' l)=c+(p.2*ρ' p.1+evl ρ' l);omega
   ·cases h
  ·cases h
theorem evl_congr {ρ ρ':Nat→Int}:∀{l:List (Nat×Int)},(∀p∈l,ρ p.1=ρ' p.1)→evl ρ l=evl ρ' l
 |[],_=>rfl
 |x::l,h=>by
  show x.2*ρ x.1+evl ρ l=x.2*ρ' x.1+evl ρ' l;rw[h x List.mem_cons_self,evl_congr fun p hp=>h p (List.mem_cons_of_mem _ hp)]
theorem lv_congr {ρ ρ':Nat→Int} {x:Lin} (h:∀p∈x.2,ρ p.1=ρ' p.1):lv ρ x=lv ρ' x:=by unfold lv;rw[evl_congr h]
theorem llt_ok {n:Nat} {x:Lin} (h:llt n x=true) {e e':AEnv} (k:Agr n e e'):lv e'.ρ x=lv e.ρ x:=
 lv_congr fun p hp=>(k p.1 ((ble_iff _ _).1 (all_true h p hp))).1
noncomputable def fK (k:Nat) (ms:List (Option Lin)) (ps:List Lin) (v:Nat):Option Lin:=
 Bool.rec (nth ps (Nat.sub v k)) (match nth ms v with|some (some x)=>some x|_=>none) (Nat.ble (Nat.succ v) k)
noncomputable def lzs (a:List Lin):List Lin→Bool:=
 List.rec (fun b=>List.rec true (fun _ _ _=>false) b) (fun x _ ih b=>List.rec false (fun y t _=>Bool.rec false (ih t) (lz (lsub x y))) b) a
noncomputable def lsubs (a:List Lin):List Lin→List Lin:=
 List.rec (fun _=>[]) (fun x _ ih b=>List.rec [] (fun y t _=>lsub x y::ih t) b) a
noncomputable def noPar (k:Nat) (ct:CT):Bool:=match ct with| .sl _ ps=>all (llt k) ps|_=>true
noncomputable def awk (T:Nat→Option STy) (fa:Tr Lin) (t:Nat) (ps qs:List Lin) (s:Scr):Option Scr:=
 Bool.rec (match T t with
  |some ty=>Bool.rec none (match each (fun x:Lin=>sbF (fK (len ty.cs) (maps (fun _=>some (lK 0)) ty.cs) (lsubs qs ps)) (0,x.2)) ty.cons with
   |some l=>needs fa l s
   |none=>none) (Bool.rec false (all (noPar (len ty.cs)) ty.cs) (Nat.beq (len ps) (len qs)))
  |none=>none) (some s) (lzs ps qs)
theorem lzs_ok (ρ:Nat→Int):∀{a b:List Lin},lzs a b=true→a.map (lv ρ)=b.map (lv ρ)
 |[],[],_=>rfl
 |[],_::_,h=>by cases h
 |_::_,[],h=>by cases h
 |x::a,y::b,h=>by
  have h:(Bool.rec false (lzs a b) (lz (lsub x y)):Bool)=true:=h;rw[brec']at h
  split at h
  ·rename_i hz
   have:=lz_ok ρ hz;rw[lv_sub]at this;rw[List.map_cons,List.map_cons,lzs_ok ρ h,show lv ρ x=lv ρ y from by omega]
  ·cases h
theorem lsubs_get (ρ:Nat→Int):∀{a b:List Lin} {i:Nat} {z:Lin},(lsubs a b)[i]?=some z→∃x y,a[i]?=some x∧b[i]?=some y∧lv ρ z=lv ρ x-lv ρ y
 |[],_,i,z,h=>by cases h
 |_::_,[],i,z,h=>by cases h
 |x::a,y::b,i,z,h=>by
  have h:(lsub x y::lsubs a b)[i]?=some z:=h
  cases i with
  |zero=>cases h;exact⟨x,y,rfl,rfl,lv_sub _ _ _⟩
  |succ i=>
   have h:(lsubs a b)[i]?=some z:=h;obtain⟨p,q,h1,h2,h3⟩:=lsubs_get ρ (a:=a) (b:=b) (i:=i) h;exact⟨p,q,h1,h2,h3⟩
theorem sval_lo {ms pv:List Int} {v:Nat} (h:v<ms.length):sval ms pv v=ms.getD v 0:=by
 unfold sval;rw[List.getD_eq_getElem?_getD,List.getD_eq_getElem?_getD,List.getElem?_append,if_pos h]
theorem sval_hi {ms pv:List Int} {v:Nat} (h:ms.length≤v):sval ms pv v=pv.getD (v-ms.length) 0:=by
 unfold sval;rw[List.getD_eq_getElem?_getD,List.getD_eq_getElem?_getD,List.getElem?_append,if_neg (by omega)]
section
variable{T:Nat→Option STy}
theorem CfCs_congr {σ σ':Nat→Int} {k:Nat} (hk:∀v,v<k→σ v=σ' v):∀{l:List CT} {us:List U} {ms:List Int},(∀ct∈l,noPar k ct=true)→CfCs T l σ us ms→CfCs T l σ' us ms
 |[],_,_,_,.nil _=>.nil _
 |ct::l,_,_,hn,.cons _ _ _ u us m ms h t=>by
  refine .cons _ _ _ _ _ _ _ ?_ (CfCs_congr hk (fun c hc=>hn c (List.mem_cons_of_mem _ hc)) t)
  cases h with
  |int k _ n=>exact .int ..
  |bool _ b=>exact .bool ..
  |str _ l h=>exact .str _ l h
  |nil t ps _=>exact .nil ..
  |fz t ps _ k' n l' hk' hl h'=>
   have h1:=hn _ List.mem_cons_self;have:ps.map (lv σ)=ps.map (lv σ'):=by
    refine List.map_congr_left fun x hx=>lv_congr fun p hp=>hk _ ?_
    exact(ble_iff _ _).1 (all_true (all_true h1 x hx) p hp)
   rw[this]at h';exact .fz _ _ _ _ _ _ hk' hl h'
theorem awk_ok {fa:Tr Lin} {t:Nat} {ps qs:List Lin} {s s':Scr} (h:awk T fa t ps qs s=some s') {ρ:Nat→Int} (hF:Facts ρ fa) {c:List U} (hc:CfE T t (ps.map (lv ρ)) c):CfE T t (qs.map (lv ρ)) c:=by
 unfold awk at h;rw[brec']at h
 split at h
 ·rename_i hz
  rw[←lzs_ok ρ hz];exact hc
 ·cases hc with
  |mk _ _ _ ty ms ht hcs hcons=>
   simp only[ht]at h;rw[brec']at h
   split at h
   case isFalse=>cases h
   rename_i hb;rw[brec']at hb
   split at hb
   case isFalse=>cases hb
   rename_i hlen;rw[beq_iff,len_eq,len_eq]at hlen
   split at h
   case h_2=>cases h
   rename_i l hl;have hml:ms.length=ty.cs.length:=hcs.len.2;refine .mk _ _ _ ty ms ht (CfCs_congr (k:=len ty.cs) (fun v hv=>?_) (fun ct hct=>all_true hb ct hct) hcs) fun x hx=>?_
   ·rw[len_eq,←hml]at hv
    rw[sval_lo hv,sval_lo hv]
   ·have h0:=hcons x hx
    obtain⟨i,hi⟩:=List.getElem?_of_mem hx;obtain⟨q,hq,hxq⟩:=(each_spec _ _ _ hl).get hi;have h1:=needs_ok hF h q (List.mem_of_getElem? hq);have hxq:sbF (fK (len ty.cs) (maps (fun _=>some (lK 0)) ty.cs) (lsubs qs ps)) (0,x.2)=some q:=hxq;have key:lv ρ q=lv (fun v=>sval ms (qs.map (lv ρ)) v-sval ms (ps.map (lv ρ)) v) (0,x.2):=by
     refine sbF_ok hxq fun p hp y hy=>?_
     unfold fK at hy;rw[brec']at hy
     split at hy
     ·rename_i hlt
      rw[ble_iff,len_eq,←hml]at hlt;show lv ρ y=sval ms _ p.1-sval ms _ p.1;rw[sval_lo hlt,sval_lo hlt]
      split at hy
      ·rename_i z hz
       cases hy
       rw[nth_eq,maps_eq,List.getElem?_map]at hz
       cases hc':ty.cs[p.1]? with
       |none=>rw[hc']at hz;cases hz
       |some _=>rw[hc']at hz;cases hz;rw[lv_K];omega
      ·cases hy
     ·rename_i hge
      rw[ble_iff,len_eq,←hml]at hge;rw[len_eq,←hml]at hy;have hge:ms.length≤p.1:=by omega
      rw[nth_eq]at hy;obtain⟨a,b,ha,hb',hab⟩:=lsubs_get ρ hy;show lv ρ y=sval ms _ p.1-sval ms _ p.1;rw[sval_hi hge,sval_hi hge,hab,List.getD_eq_getElem?_getD,List.getD_eq_getElem?_getD,List.getElem?_map,List.getElem?_map];have ha:qs[p.1-ms.length]?=some a:=ha;have hb':ps[p.1-ms.length]?=some b:=hb';rw[ha,hb'];rfl
    have hdiff:∀(f g:Nat→Int) (l:List (Nat×Int)),evl (fun v=>f v-g v) l=evl f l-evl g l:=by
     intro f g l
     induction l with
     |nil=>rfl
     |cons p l ih=>
      show p.2*(f p.1-g p.1)+evl (fun v=>f v-g v) l=(p.2*f p.1+evl f l)-(p.2*g p.1+evl g l);rw[ih,Int.mul_sub];omega
    have key:lv ρ q=0+evl (fun v=>sval ms (qs.map (lv ρ)) v-sval ms (ps.map (lv ρ)) v) x.2:=key;rw[hdiff]at key;show 0≤x.1+evl (sval ms (qs.map (lv ρ))) x.2;have h0:0≤x.1+evl (sval ms (ps.map (lv ρ))) x.2:=h0;omega
theorem awkL_ok {fa:Tr Lin} {t:Nat} {ps qs:List Lin} {s s':Scr} (h:awk T fa t ps qs s=some s') {ρ:Nat→Int} (hF:Facts ρ fa) {k n:Nat} {l:List U} (hc:CfL T t (ps.map (lv ρ)) k n l):CfL T t (qs.map (lv ρ)) k n l:=
 ⟨hc.1,hc.2.1,fun j hj=>awk_ok h hF (hc.2.2 j hj)⟩
end
noncomputable def ameas (ct:CT) (c:AC):Option (Option Lin):=
 match ct,c with
 | .int k,.int j x=>Bool.rec none (some (some x)) (Nat.beq (kn k) (kn j))
 | .bool,.bool .tt=>some (some (lK 0))
 | .bool,.bool .ff=>some (some (lK (-1)))
 | .bool,.bool _=>some none
 | .str,.str x=>some (some x)
 | .sl t _,.sl t' _ n _=>Bool.rec none (some (some n)) (Nat.beq t t')
 | .sl _ _,.nil=>some (some (lK 0))
 |_,_=>none
noncomputable def ameass (cts:List CT):List AC→Option (List (Option Lin)):=
 List.rec (fun cs=>List.rec (some []) (fun _ _ _=>none) cs) (fun ct _ ih cs=>List.rec none (fun c t _=>match ameas ct c with
  |some m=>match ih t with|some ms=>some (m::ms)|none=>none
  |none=>none) cs) cts
noncomputable def asl1 (T:Nat→Option STy) (fa:Tr Lin) (f:Nat→Option Lin) (ct:CT) (c:AC) (s:Scr):Option Scr:=
 match ct,c with
 | .sl t0 ps,.sl _ ps' _ _=>match each (sbF f) ps with
   |some qs=>awk T fa t0 ps' qs s
   |none=>none
 |_,_=>some s
noncomputable def asls (T:Nat→Option STy) (fa:Tr Lin) (f:Nat→Option Lin) (cts:List CT):List AC→Scr→Option Scr:=
 List.rec (fun _ s=>some s) (fun ct _ ih cs s=>List.rec none (fun c t _=>
  match asl1 T fa f ct c s with|some s=>ih t s|none=>none) cs) cts
noncomputable def acf (T:Nat→Option STy) (fa:Tr Lin) (t:Nat) (ps:List Lin) (cs:List AC) (s:Scr):Option Scr:=
 match T t with
 |some ty=>match ameass ty.cs cs with
  |some ms=>match each (sbF (fK (len ty.cs) ms ps)) ty.cons with
   |some l=>match needs fa l s with
    |some s=>asls T fa (fK (len ty.cs) ms ps) ty.cs cs s
    |none=>none
   |none=>none
  |none=>none
 |none=>none
def mU:U→Int
 | .int _ n=>n
 | .bool b=>if b=true then 0 else -1
 | .str l=>l.length
 | .fz _ n _=>n
 |_=>0
section
variable{X:Cx} {e:AEnv}
theorem CfC_mU {T:Nat→Option STy} {ct:CT} {σ:Nat→Int} {u:U} {m:Int} (h:CfC T ct σ u m):m=mU u:=by cases h<;>rfl
theorem CfCs_mU {T:Nat→Option STy}:∀{cts:List CT} {σ:Nat→Int} {us:List U} {ms:List Int},CfCs T cts σ us ms→ms=us.map mU
 |[],_,_,_,.nil _=>rfl
 |_::_,_,_,_,.cons _ _ _ _ _ _ _ h t=>by rw[List.map_cons,CfC_mU h,CfCs_mU t]
def MeasOk (ρ:Nat→Int) (ms:List (Option Lin)) (us:List U):Prop:=ms.length=us.length∧∀(i:Nat) x,ms[i]?=some (some x)→(us.map mU)[i]?=some (lv ρ x)
theorem ameas_ok {ct:CT} {c:AC} {m:Option Lin} (h:ameas ct c=some m) {u:U} (hg:gaC X e c (.v u)):(∀x,m=some x→mU u=lv e.ρ x)∧
 ((∀t ps,ct≠.sl t ps)→∀σ,CfC X.T ct σ u (mU u))∧(∀t ps,ct=.sl t ps→u=.nil∨∃ps' nx nm k m,c=.sl t ps' nx nm∧u=.fz k m (e.L nm)∧CfL X.T t (ps'.map (lv e.ρ)) k m (e.L nm)):=by
 unfold ameas at h
 split at h
 ·rename_i k j x
  rw[brec']at h
  split at h
  ·rename_i hk
   cases h
   have hkj:=kn_inj hk;subst hkj;have hg:G.v u=.v (.int k (lv e.ρ x)):=hg
   cases hg
   exact⟨fun y hy=>by cases hy;rfl,fun _ σ=>.int ..,fun t ps h=>by cases h⟩
  ·cases h
 ·cases h
  have hg:G.v u=.v (.bool true):=hg
  cases hg
  exact⟨fun y hy=>by cases hy;rw[lv_K];rfl,fun _ σ=>.bool σ true,fun t ps h=>by cases h⟩
 ·cases h
  have hg:G.v u=.v (.bool false):=hg
  cases hg
  exact⟨fun y hy=>by cases hy;rw[lv_K];rfl,fun _ σ=>.bool σ false,fun t ps h=>by cases h⟩
 ·rename_i b _ _
  cases h
  have hg:G.v u=.v (.bool (bv e.ρ b)):=hg
  cases hg
  exact⟨fun y hy=>(by cases hy),fun _ σ=>.bool σ _,fun t ps h=>(by cases h)⟩
 ·rename_i x
  cases h
  obtain⟨l,h1,h2,h3⟩:=hg
  cases h1
  exact⟨fun y hy=>by cases hy;exact h2,fun _ σ=>.str σ l h3,fun t ps h=>by cases h⟩
 ·rename_i t ps t' ps' n nm
  rw[brec']at h
  split at h
  ·rename_i ht
   cases h
   rw[beq_iff]at ht;subst ht;rcases hg with⟨h1,h2⟩|⟨k,m,h1,h2,h3⟩
   ·cases h1
    exact⟨fun y hy=>by cases hy;exact h2.symm,fun hn=>absurd rfl (hn _ _),fun t ps h=>.inl rfl⟩
   ·cases h1
    refine⟨fun y hy=>by cases hy;exact h2,fun hn=>absurd rfl (hn _ _),fun t2 ps2 h=>?_⟩
    cases h
    exact .inr ⟨_,_,_,_,_,rfl,rfl,h3⟩
  ·cases h
 ·cases h
  have hg:G.v u=.v .nil:=hg
  cases hg
  exact⟨fun y hy=>by cases hy;rw[lv_K];rfl,fun hn=>absurd rfl (hn _ _),fun t ps h=>.inl rfl⟩
 ·cases h
theorem ameass_ok:∀{cts:List CT} {cs:List AC} {us:List U} {ms:List (Option Lin)},ameass cts cs=some ms→Al (gaC X e) cs (us.map .v)→MeasOk e.ρ ms us∧us.length=cts.length
 |[],[],us,ms,h,ha=>by
  have h:some ([]:List (Option Lin))=some ms:=h
  cases h
  cases us with
  |nil=>exact⟨⟨rfl,fun i x h=>by cases h⟩,rfl⟩
  |cons u us=>cases ha
 |[],c::cs,us,ms,h,ha=>by cases h
 |ct::cts,[],us,ms,h,ha=>by cases h
 |ct::cts,c::cs,us,ms,h,ha=>by
  have h:(match ameas ct c with
   |some m=>match ameass cts cs with|some ms=>some (m::ms)|none=>none
   |none=>none)=some ms:=h
  split at h
  case h_2=>cases h
  rename_i m hm
  split at h
  case h_2=>cases h
  rename_i ms' hms
  cases h
  cases us with
  |nil=>cases ha
  |cons u us=>
   cases ha with
   |cons h1 h2=>
    obtain⟨n1,n2,n3⟩:=ameas_ok hm h1;obtain⟨r1,r2⟩:=ameass_ok hms h2;refine⟨⟨by simp[r1.1],fun i x hi=>?_⟩,by simp[r2]⟩
    cases i with
    |zero=>cases hi;show some (mU u)=_;rw[n1 x rfl]
    |succ i=>exact r1.2 i x hi
theorem asls_ok {fa:Tr Lin} (hF:Facts e.ρ fa) {f:Nat→Option Lin} {σ:Nat→Int} (hf:∀v y,f v=some y→lv e.ρ y=σ v):∀{cts:List CT} {cs:List AC} {us:List U} {ms:List (Option Lin)} {s s':Scr},ameass cts cs=some ms→Al (gaC X e) cs (us.map .v)→
 asls X.T fa f cts cs s=some s'→CfCs X.T cts σ us (us.map mU)
 |[],[],us,ms,s,s',h,ha,hs=>by
  cases us with
  |nil=>exact .nil _
  |cons u us=>cases ha
 |[],c::cs,us,ms,s,s',h,ha,hs=>by cases h
 |ct::cts,[],us,ms,s,s',h,ha,hs=>by cases h
 |ct::cts,c::cs,us,ms,s,s',h,ha,hs=>by
  have h:(match ameas ct c with
   |some m=>match ameass cts cs with|some ms=>some (m::ms)|none=>none
   |none=>none)=some ms:=h
  split at h
  case h_2=>cases h
  rename_i m hm
  split at h
  case h_2=>cases h
  rename_i ms' hms
  cases h
  cases us with
  |nil=>cases ha
  |cons u us=>
   cases ha with
   |cons h1 h2=>
    obtain⟨n1,n2,n3⟩:=ameas_ok hm h1;have hs:(match asl1 X.T fa f ct c s with|some s=>asls X.T fa f cts cs s|none=>none)=some s':=hs
    split at hs
    case h_2=>cases hs
    rename_i s1 hs1;rw[List.map_cons];refine .cons _ _ _ _ _ _ _ ?_ (asls_ok hF hf hms h2 hs)
    cases ct with
    |int k=>exact n2 (fun _ _ h=>by cases h) σ
    |bool=>exact n2 (fun _ _ h=>by cases h) σ
    |str=>exact n2 (fun _ _ h=>by cases h) σ
    |sl t0 ps=>
     rcases n3 t0 ps rfl with rfl|⟨ps2,nx2,nm2,k,m',rfl,rfl,h5⟩
     ·exact .nil ..
     ·have hs1:(match each (sbF f) ps with
       |some qs=>awk X.T fa t0 ps2 qs s
       |none=>none)=some s1:=hs1
      split at hs1
      case h_2=>cases hs1
      rename_i qs hqs;have hq:qs.map (lv e.ρ)=ps.map (lv σ):=by
       have:=each_spec _ _ _ hqs;refine List.ext_getElem? fun i=>?_
       rw[List.getElem?_map,List.getElem?_map]
       cases hp:ps[i]? with
       |none=>
        have:qs[i]?=none:=by
         rw[List.getElem?_eq_none_iff]at hp⊢;rw[←this.len];exact hp
        rw[this];rfl
       |some p=>
        obtain⟨q,hq,hpq⟩:=this.get hp;rw[hq];show some (lv e.ρ q)=some (lv σ p);rw[sbF_ok (c:=p.1) (l:=p.2) hpq fun z hz y hy=>hf _ _ hy]
      have h6:=awkL_ok hs1 hF h5;rw[hq]at h6;exact .fz _ _ _ _ _ _ h6.1 h6.2.1 h6.2.2
theorem fK_ok {k:Nat} {ms:List (Option Lin)} {ps:List Lin} {us:List U} (hm:MeasOk e.ρ ms us) (hk:us.length=k):∀v y,fK k ms ps v=some y→lv e.ρ y=sval (us.map mU) (ps.map (lv e.ρ)) v:=by
 intro v y h;unfold fK at h;rw[brec']at h
 split at h
 ·rename_i hlt
  rw[ble_iff]at hlt;rw[sval_lo (by rw[List.length_map];omega)]
  split at h
  ·rename_i x hx
   cases h
   rw[nth_eq]at hx;rw[List.getD_eq_getElem?_getD,hm.2 v y hx];rfl
  ·cases h
 ·rename_i hge
  rw[ble_iff]at hge;rw[sval_hi (by rw[List.length_map];omega),List.length_map,List.getD_eq_getElem?_getD,List.getElem?_map];rw[nth_eq]at h;have h:ps[v-k]?=some y:=h;rw[hk,h];rfl
theorem sbFs_ok {f:Nat→Option Lin} {σ:Nat→Int} {ρ:Nat→Int} (hf:∀v y,f v=some y→lv ρ y=σ v) {l m:List Lin} (h:each (sbF f) l=some m) {P:Int→Prop} (hm:∀x∈m,P (lv ρ x)):∀x∈l,P (lv σ x):=by
 intro x hx;obtain⟨i,hi⟩:=List.getElem?_of_mem hx;obtain⟨q,hq,hxq⟩:=(each_spec _ _ _ h).get hi;have:=hm q (List.mem_of_getElem? hq);rw[sbF_ok (c:=x.1) (l:=x.2) hxq fun p hp y hy=>hf _ _ hy]at this;exact this
theorem acf_ok {fa:Tr Lin} (hF:Facts e.ρ fa) {t:Nat} {ps:List Lin} {cs:List AC} {us:List U} {s s':Scr} (h:acf X.T fa t ps cs s=some s') (ha:Al (gaC X e) cs (us.map .v)):CfE X.T t (ps.map (lv e.ρ)) us:=by
 unfold acf at h
 split at h
 case h_2=>cases h
 rename_i ty hty
 split at h
 case h_2=>cases h
 rename_i ms hms
 split at h
 case h_2=>cases h
 rename_i l hl
 split at h
 case h_2=>cases h
 rename_i s1 hs1;obtain⟨h1,h2⟩:=ameass_ok hms ha;have hf:=fK_ok (ps:=ps) h1 (by rw[len_eq];exact h2:us.length=len ty.cs);refine .mk _ _ _ ty (us.map mU) hty (asls_ok hF hf hms ha h) ?_;exact sbFs_ok hf hl (P:=fun n=>0≤n) (needs_ok hF hs1)
end
noncomputable def afc1 (f:Nat→Option Lin) (ct:CT) (v:Nat):Option AC:=
 match ct with
 | .int k=>some (.int k (lV v))
 | .bool=>some (.bool (.ge (lV v)))
 | .str=>some (.str (lV v))
 | .sl t ps=>match each (sbF f) ps with|some qs=>some (.sl t qs (lV v) v)|none=>none
noncomputable def afcs (f:Nat→Option Lin) (cts:List CT):Nat→Option (List AC):=
 List.rec (fun _=>some []) (fun ct _ ih v=>match ih (Nat.succ v)with
  |some cs=>match afc1 f ct v with|some c=>some (c::cs)|none=>none
  |none=>none) cts
noncomputable def affs (cts:List CT):Nat→List Lin:=
 List.rec (fun _=>[]) (fun ct _ ih v=>match ct with
  | .int _=>ih (Nat.succ v)
  | .bool=>ladd (lV v) (lK 1)::lopp (lV v)::ih (Nat.succ v)
  | .str=>lV v::ih (Nat.succ v)
  | .sl _ _=>lV v::ih (Nat.succ v)) cts
noncomputable def afe (T:Nat→Option STy) (t:Nat) (ps:List Lin) (σ:AS):Option (List AC×AS):=
 match T t with
 |some ty=>Bool.rec none
  (match afcs (fun v=>Bool.rec (nth ps (Nat.sub v (len ty.cs))) (some (lV (Nat.add σ.nv v))) (Nat.ble (Nat.succ v) (len ty.cs))) ty.cs σ.nv with
  |some cs=>match each (sbF (fun v=>Bool.rec (nth ps (Nat.sub v (len ty.cs))) (some (lV (Nat.add σ.nv v))) (Nat.ble (Nat.succ v) (len ty.cs)))) ty.cons with
   |some l=>some (cs,facts l (facts (affs ty.cs σ.nv) (bump (len ty.cs) σ)))
   |none=>none
  |none=>none) (all (llt σ.nv) ps)
 |none=>none
def cL:U→List U
 | .fz _ _ l=>l
 |_=>[]
def AEnv.putL (e:AEnv) (n:Nat) (us:List U):AEnv:=
 {e with ρ:=fun v=>if n≤v∧v<n+us.length then(us.map mU).getD (v-n) 0 else e.ρ v,L:=fun v=>if n≤v∧v<n+us.length then(us.map cL).getD (v-n) []else e.L v}
theorem agr_putL (e:AEnv) (n:Nat) (us:List U):Agr n e (e.putL n us):=fun v hv=>⟨by show(if _ then _ else _)=_;rw[if_neg (by omega)],rfl,rfl,by show(if _ then _ else _)=_;rw[if_neg (by omega)]⟩
section
variable{X:Cx} {e:AEnv}
theorem afcs_ok {f:Nat→Option Lin} {σ:Nat→Int} (hf:∀v y,f v=some y→lv e.ρ y=σ v):∀{cts:List CT} {v:Nat} {cs:List AC} {us:List U} {ms:List Int},afcs f cts v=some cs→CfCs X.T cts σ us ms→
 (∀i,i<us.length→e.ρ (v+i)=(us.map mU).getD i 0∧e.L (v+i)=(us.map cL).getD i [])→Al (gaC X e) cs (us.map .v)∧∀x∈affs cts v,0≤lv e.ρ x
 |[],v,cs,us,ms,h,hc,hu=>by
  have h:some ([]:List AC)=some cs:=h
  cases h
  cases hc
  exact⟨.nil,fun x hx=>by cases hx⟩
 |ct::cts,v,cs,us0,ms0,h,hc0,hu=>by
  obtain⟨u,us,m,ms,rfl,rfl,hc,ht⟩:∃u us m ms,us0=u::us∧ms0=m::ms∧CfC X.T ct σ u m∧CfCs X.T cts σ us ms:=by
   cases hc0 with
   |cons _ _ _ u us m ms hc ht=>exact⟨u,us,m,ms,rfl,rfl,hc,ht⟩
  have h:(match afcs f cts (Nat.succ v)with
   |some cs=>match afc1 f ct v with|some c=>some (c::cs)|none=>none
   |none=>none)=some cs:=h
  split at h
  case h_2=>cases h
  rename_i cs1 hcs1
  split at h
  case h_2=>cases h
  rename_i c0 hc1
  cases h
  obtain⟨r1,r2⟩:=afcs_ok hf hcs1 ht fun i hi=>by
   have:=hu (i+1) (by simp;omega);rw[show v+(i+1)=Nat.succ v+i from by omega]at this
   simpa using this
  have h0:=hu 0 (by simp);have e1:e.ρ v=mU u:=h0.1;have e2:e.L v=cL u:=h0.2
  cases hc with
  |int k _ n=>
   cases hc1
   exact⟨.cons (by show G.v (.int k m)=.v (.int k (lv e.ρ (lV v)));rw[lv_V,e1];rfl) r1,r2⟩
  |bool _ b=>
   cases hc1
   have e1:e.ρ v=if b=true then 0 else -1:=e1
   refine⟨.cons ?_ r1,fun x hx=>?_⟩
   ·show G.v (.bool b)=.v (.bool (decide (0≤lv e.ρ (lV v))))
    rw[lv_V,e1];cases b<;>rfl
   ·have hx:x∈ladd (lV v) (lK 1)::lopp (lV v)::affs cts (Nat.succ v):=hx
    simp only[List.mem_cons]at hx;rcases hx with rfl|rfl|hx
    ·rw[lv_add,lv_V,lv_K,e1];split<;>omega
    ·rw[lv_opp,lv_V,e1];split<;>omega
    ·exact r2 x hx
  |str _ l hl=>
   cases hc1
   have e1:e.ρ v=(l.length:Int):=e1;refine⟨.cons ⟨l,rfl,by rw[lv_V,e1],hl⟩ r1,fun x hx=>?_⟩;have hx:x∈lV v::affs cts (Nat.succ v):=hx;simp only[List.mem_cons]at hx;rcases hx with rfl|hx
   ·rw[lv_V,e1];omega
   ·exact r2 x hx
  |nil t ps _=>
   have h:(match each (sbF f) ps with|some qs=>some (AC.sl t qs (lV v) v)|none=>none)=some c0:=hc1
   split at h
   case h_2=>cases h
   cases h
   have e1:e.ρ v=0:=e1;refine⟨.cons (.inl ⟨rfl,by rw[lv_V,e1]⟩) r1,fun x hx=>?_⟩;have hx:x∈lV v::affs cts (Nat.succ v):=hx;simp only[List.mem_cons]at hx;rcases hx with rfl|hx
   ·rw[lv_V,e1];omega
   ·exact r2 x hx
  |fz t ps _ k n l hk hl hj=>
   have h:(match each (sbF f) ps with|some qs=>some (AC.sl t qs (lV v) v)|none=>none)=some c0:=hc1
   split at h
   case h_2=>cases h
   rename_i qs hqs
   cases h
   have e1:e.ρ v=(n:Int):=e1;have e2:e.L v=l:=e2;have hq:qs.map (lv e.ρ)=ps.map (lv σ):=by
    have:=each_spec _ _ _ hqs;refine List.ext_getElem? fun i=>?_
    rw[List.getElem?_map,List.getElem?_map]
    cases hp:ps[i]? with
    |none=>
     have:qs[i]?=none:=by
      rw[List.getElem?_eq_none_iff]at hp⊢;rw[←this.len];exact hp
     rw[this];rfl
    |some p=>
     obtain⟨q,hq,hpq⟩:=this.get hp;rw[hq];show some (lv e.ρ q)=some (lv σ p);rw[sbF_ok (c:=p.1) (l:=p.2) hpq fun z hz y hy=>hf _ _ hy]
   refine⟨.cons (.inr ⟨k,n,by rw[e2],by rw[lv_V,e1],by rw[hq,e2];exact⟨hk,hl,hj⟩⟩) r1,fun x hx=>?_⟩;have hx:x∈lV v::affs cts (Nat.succ v):=hx;simp only[List.mem_cons]at hx;rcases hx with rfl|hx
   ·rw[lv_V,e1];omega
   ·exact r2 x hx
theorem afe_ok {σ:AS} {g:GS} (hW:W X e σ g) {t:Nat} {ps:List Lin} {us:List U} (hc:CfE X.T t (ps.map (lv e.ρ)) us) {cs:List AC} {σ':AS} (h:afe X.T t ps σ=some (cs,σ')):
 σ.nv≤σ'.nv∧σ'.tm=σ.tm∧σ'.ob=σ.ob∧σ'.me=σ.me∧σ'.ft=σ.ft∧∃e1,Agr σ.nv e e1∧∀e',Agr σ'.nv e1 e'→Agr σ.nv e e'∧Holds X e' σ' g∧Al (gaC X e') cs (us.map .v):=by
 unfold afe at h
 split at h
 case h_2=>cases h
 rename_i ty hty;rw[brec']at h
 split at h
 case isFalse=>cases h
 rename_i hps
 split at h
 case h_2=>cases h
 rename_i cs1 hcs
 split at h
 case h_2=>cases h
 rename_i l hl
 cases h
 cases hc with
 |mk _ _ _ ty' ms ht hcs' hcons=>
  rw[hty]at ht;cases ht;have hms:=CfCs_mU hcs';subst hms;have hul:us.length=len ty.cs:=by rw[len_eq];exact hcs'.len.1
  have hnv:(facts l (facts (affs ty.cs σ.nv) (bump (len ty.cs) σ))).nv=σ.nv+len ty.cs:=by rw[facts_nv,facts_nv];rfl
  refine⟨by rw[hnv];omega,by rw[facts_tm,facts_tm];rfl,by rw[facts_ob,facts_ob];rfl,by rw[facts_me,facts_me];rfl,by rw[facts_ft,facts_ft];rfl,e.putL σ.nv us,agr_putL _ _ _,fun e' he=>?_⟩;rw[hnv]at he;have hee:Agr σ.nv e e':=(agr_putL e σ.nv us).trans (he.mono (by omega));have hu:∀i,i<us.length→e'.ρ (σ.nv+i)=(us.map mU).getD i 0∧e'.L (σ.nv+i)=(us.map cL).getD i []:=by
   intro i hi;obtain⟨a1,_,_,a4⟩:=he (σ.nv+i) (by omega);refine⟨a1.trans ?_,a4.trans ?_⟩
   ·show(if _ then _ else _)=_
    rw[if_pos (by omega),show σ.nv+i-σ.nv=i from by omega]
   ·show(if _ then _ else _)=_
    rw[if_pos (by omega),show σ.nv+i-σ.nv=i from by omega]
  have hpe:ps.map (lv e'.ρ)=ps.map (lv e.ρ):=List.map_congr_left fun x hx=>llt_ok (all_true hps x hx) hee
  have hf:∀v y,(Bool.rec (nth ps (Nat.sub v (len ty.cs))) (some (lV (Nat.add σ.nv v))) (Nat.ble (Nat.succ v) (len ty.cs)):Option Lin)=some y→lv e'.ρ y=sval (us.map mU) (ps.map (lv e.ρ)) v:=by
   intro v y hy;rw[brec']at hy
   split at hy
   ·rename_i hlt
    rw[ble_iff]at hlt
    cases hy
    rw[sval_lo (by rw[List.length_map];omega),lv_V];exact(hu v (by omega)).1
   ·rename_i hge
    rw[ble_iff]at hge;rw[sval_hi (by rw[List.length_map];omega),List.length_map,←hpe,List.getD_eq_getElem?_getD,List.getElem?_map];rw[nth_eq]at hy;have hy:ps[v-len ty.cs]?=some y:=hy;rw[hul,hy];rfl
  obtain⟨k1,k2⟩:=afcs_ok (X:=X) (e:=e') hf hcs hcs' hu;refine⟨hee,facts_ok (facts_ok (bump_holds (hW e' hee)) k2) ?_,k1⟩;intro x hx;obtain⟨i,hi⟩:=List.getElem?_of_mem hx;have hsp:=each_spec _ _ _ hl;obtain⟨q,hq⟩:∃q,ty.cons[i]?=some q:=by
   have:=lt_of_get hi;rw[←hsp.len]at this;exact⟨_,List.getElem?_eq_getElem this⟩
  obtain⟨x',hx',hxq⟩:=hsp.get hq;rw[hi]at hx';cases hx';have hcq:=hcons q (List.mem_of_getElem? hq);rw[sbF_ok (c:=q.1) (l:=q.2) hxq fun p hp y hy=>hf _ _ hy];exact hcq
end
end Go.Proofs.YtiahijhpjloijaaGreat.V

namespace Go.Proofs.YtiahijhpjloijaaGreat.V
open Go
def AEnv.put (e:AEnv) (n:Nat) (c:Int) (i:Nat) (b:Bool) (l:List U):AEnv:=
 ⟨fun v=>if v=n then c else e.ρ v,fun v=>if v=n then i else e.ν v,fun v=>if v=n then b else e.on v,fun v=>if v=n then l else e.L v⟩
theorem agr_put (e:AEnv) (n:Nat) (c:Int) (i:Nat) (b:Bool) (l:List U):Agr n e (e.put n c i b l):=fun v hv=>by
 have:v≠n:=by omega
 exact⟨if_neg this,if_neg this,if_neg this,if_neg this⟩
theorem put_at (e:AEnv) (n:Nat) (c:Int) (i:Nat) (b:Bool) (l:List U) {e':AEnv} (h:Agr (n+1) (e.put n c i b l) e'):e'.ρ n=c∧e'.ν n=i∧e'.on n=b∧e'.L n=l:=by
 obtain⟨a1,a2,a3,a4⟩:=h n (by omega);exact⟨a1.trans (if_pos rfl),a2.trans (if_pos rfl),a3.trans (if_pos rfl),a4.trans (if_pos rfl)⟩
noncomputable def putO (nm:Nat) (o:AO) (σ:AS):AS:={σ with ob:=(nm,o)::σ.ob}
section
variable{X:Cx} {e:AEnv} {σ:AS} {g:GS}
theorem newO_ok {n:Nat} {ao:AO} {o:GO} (h:Holds X e σ g) (hn:findO n σ.ob=none∨e.on n=true∧e.ν n=g.hp.length) (hν:e.on n=true→e.ν n=g.hp.length) (ho:e.on n=true→gaO X e ao o) (hfree:∀ao,findO n σ.ob=some ao→False):
 Holds X e (putO n ao σ) ⟨g.tm,g.hp++[o]⟩:=by
 refine⟨h.tm,fun nm a hf hon=>?_,fun a b ha hb hoa hob hab=>?_,h.me,h.fa⟩
 ·have hf2:findO nm ((n,ao)::σ.ob)=some a:=hf
  clear hf;rw[findO_cons]at hf2
  split at hf2
  ·rename_i he
   subst he
   cases hf2
   refine⟨o,?_,ho hon⟩;show(g.hp++[o])[e.ν n]?=some o;rw[hν hon,List.getElem?_append,if_neg (by omega)];simp
  ·obtain⟨o',h1,h2⟩:=h.ob nm a hf2 hon
   refine⟨o',?_,h2⟩;show(g.hp++[o])[e.ν nm]?=some o';rw[List.getElem?_append,if_pos (lt_of_get h1)];exact h1
 ·have ha:findO a ((n,ao)::σ.ob)≠none:=ha
  have hb:findO b ((n,ao)::σ.ob)≠none:=hb;rw[findO_cons]at ha hb;have old:∀c,findO c σ.ob≠none→e.on c=true→e.ν c<g.hp.length:=by
   intro c hc hoc
   cases hfc:findO c σ.ob with
   |none=>exact absurd hfc hc
   |some ac=>obtain⟨o',h1,_⟩:=h.ob c ac hfc hoc;exact lt_of_get h1
  split at ha<;>split at hb
  ·rename_i h1 h2;exact h1.symm.trans h2
  ·rename_i h1 h2
   subst h1;have:=old b hb hob;have:=hν hoa;omega
  ·rename_i h1 h2
   subst h2;have:=old a ha hoa;have:=hν hob;omega
  ·exact h.inj a b ha hb hoa hob hab
theorem setO_ok {n:Nat} {ao ao':AO} {o:GO} (h:Holds X e σ g) (hf:findO n σ.ob=some ao) (hon:e.on n=true) (ho:gaO X e ao' o):Holds X e (putO n ao' σ) ⟨g.tm,setO g.hp (e.ν n) o⟩:=by
 obtain⟨o0,h0,_⟩:=h.ob n ao hf hon;have hl:=lt_of_get h0;refine⟨h.tm,fun nm a hfa hona=>?_,fun a b ha hb hoa hob hab=>?_,h.me,h.fa⟩
 ·have hf2:findO nm ((n,ao')::σ.ob)=some a:=hfa
  clear hfa;have hfa:=hf2;clear hf2;rw[findO_cons]at hfa
  split at hfa
  ·rename_i he
   subst he
   cases hfa
   exact⟨o,by show(setO g.hp (e.ν n) o)[e.ν n]?=_;rw[setO_get hl,if_pos rfl],ho⟩
  ·rename_i hne
   obtain⟨o',h1,h2⟩:=h.ob nm a hfa hona;refine⟨o',?_,h2⟩;show(setO g.hp (e.ν n) o)[e.ν nm]?=_;rw[setO_get hl,if_neg];· exact h1
   intro he;exact hne (h.inj n nm (by rw[hf];exact Option.some_ne_none _) (by rw[hfa];exact Option.some_ne_none _) hon hona he.symm)
 ·have inj:∀c,findO c ((n,ao')::σ.ob)≠none→findO c σ.ob≠none:=by
   intro c hc;rw[findO_cons]at hc
   split at hc
   ·rename_i he;subst he;rw[hf];exact Option.some_ne_none _
   ·exact hc
  exact h.inj a b (inj a ha) (inj b hb) hoa hob hab
theorem offO_ok {n:Nat} {ao ao':AO} (h:Holds X e σ g) (hf:findO n σ.ob=some ao) (hon:e.on n=false):Holds X e (putO n ao' σ) g:=by
 refine⟨h.tm,fun nm a hfa hona=>?_,fun a b ha hb hoa hob hab=>?_,h.me,h.fa⟩
 ·have hfa:findO nm ((n,ao')::σ.ob)=some a:=hfa
  rw[findO_cons]at hfa
  split at hfa
  ·rename_i he;subst he;rw[hon]at hona;cases hona
  ·exact h.ob nm a hfa hona
 ·have inj:∀c,findO c ((n,ao')::σ.ob)≠none→findO c σ.ob≠none:=by
   intro c hc;rw[findO_cons]at hc
   split at hc
   ·rename_i he;subst he;rw[hf];exact Option.some_ne_none _
   ·exact hc
  exact h.inj a b (inj a ha) (inj b hb) hoa hob hab
end
noncomputable def okNames (σ:AS):Bool:=all (fun z=>Nat.ble (Nat.succ z.1) σ.nv) σ.ob
theorem findO_mem {α:Type} {n:Nat} {a:α}:∀{l:List (Nat×α)},findO n l=some a→∃z∈l,z.1=n
 |[],h=>by cases h
 |z::l,h=>by
  obtain⟨m,o⟩:=z;rw[findO_cons]at h
  split at h
  ·rename_i he;exact⟨_,List.mem_cons_self,he⟩
  ·obtain⟨z,hz,e⟩:=findO_mem h;exact⟨z,List.mem_cons_of_mem _ hz,e⟩
noncomputable def acfL (T:Nat→Option STy) (fa:Tr Lin) (t:Nat) (ps:List Lin) (k:Nat) (n:Nat):List AC→Scr→Option Scr:=
 Nat.rec (fun cs s=>List.rec (some s) (fun _ _ _=>none) cs) (fun _ ih cs s=>match acf T fa t ps (take k cs) s with
  |some s=>ih (drop k cs) s
  |none=>none) n
theorem kOf_of {T:Nat→Option STy} {t:Nat} {ty:STy} (h:T t=some ty):kOf T t=some (len ty.cs):=by unfold kOf;rw[h,len_eq];rfl
section
variable{X:Cx} {e:AEnv}
theorem acfL_ok {fa:Tr Lin} (hF:Facts e.ρ fa) {t:Nat} {ps:List Lin} {k:Nat} (hk:kOf X.T t=some k):∀{n:Nat} {cs:List AC} {us:List U} {s s':Scr},acfL X.T fa t ps k n cs s=some s'→Al (gaC X e) cs (us.map .v)→CfL X.T t (ps.map (lv e.ρ)) k n us
 |0,cs,us,s,s',h,ha=>by
  cases cs with
  |cons c cs=>cases h
  |nil=>cases us with
   |nil=>exact .nil hk
   |cons u us=>cases ha
 |n+1,cs,us,s,s',h,ha=>by
  have h:(match acf X.T fa t ps (take k cs) s with
   |some s=>acfL X.T fa t ps k n (drop k cs) s
   |none=>none)=some s':=h
  split at h
  case h_2=>cases h
  rename_i s1 hs1;rw[take_eq]at hs1;rw[drop_eq]at h;have h1:=acf_ok hF hs1 (us:=us.take k) (by rw[List.map_take];exact ha.take k);have h2:=acfL_ok hF hk h (us:=us.drop k) (by rw[List.map_drop];exact ha.drop k);have:=(CfL.one hk h1).app h2;rw[List.take_append_drop,Nat.add_comm]at this;exact this
end
noncomputable def afrs (f:AS→AC→Scr→Option (AC×AS×Scr)) (cs:List AC):AS→Scr→Option (List AC×AS×Scr):=
 List.rec (fun σ s=>some ([],σ,s)) (fun c _ ih σ s=>match f σ c s with
  |some (c,σ,s)=>match ih σ s with|some (cs,σ,s)=>some (c::cs,σ,s)|none=>none
  |none=>none) cs
noncomputable def isP (c:AC):Bool:=match c with| .own .. | .loc .. | .eloc .. | .floc .. =>false|_=>true
noncomputable def afF (X:Cx) (σ:AS) (k:Nat) (m:Lin) (t:Nat) (ps:List Lin) (m':Lin) (nm2:Nat) (s:Scr):Option (AC×AS×Scr):=
 match kOf X.T t with
 |some k'=>Bool.rec none (match same σ.fa m m' s with|some s=>some (.sl t ps m nm2,σ,s)|none=>none) (Nat.beq k k')
 |none=>none
noncomputable def afM (X:Cx) (σ:AS) (nm k:Nat) (m:Lin) (e0 t:Nat) (ps:List Lin) (m':Lin) (s:Scr):Option (AC×AS×Scr):=
 match kOf X.T t with
 |some k'=>Bool.rec none (match same σ.fa m m' s with
  |some s=>some (.sl t ps m σ.nv,bump 1 (putO nm (.F e0 t ps m σ.nv) σ),s)
  |none=>none) (Nat.beq k k')
 |none=>none
noncomputable def lnat (x:Lin):Option Nat:=match x with|(.ofNat n,[])=>some n|_=>none
noncomputable def afX (X:Cx) (σ1:AS) (nm k:Nat) (m:Lin) (e0:Nat) (cs':List AC) (s:Scr):Option (AC×AS×Scr):=
 match findO nm σ1.ob with
 |some (.X e1 _)=>match X.ety e0 with
  |some t=>match X.T t with
   |some ty=>match lnat m with
    |some m0=>Bool.rec none (match acfL X.T σ1.fa t (maps lK ty.dps) k m0 cs' s with
     |some s=>some (.sl t (maps lK ty.dps) m σ1.nv,bump 1 (putO nm (.F e1 t (maps lK ty.dps) m σ1.nv) σ1),s)
     |none=>none) (Bool.rec false (Bool.rec false (okNames σ1) (Nat.beq k (len ty.cs))) (Nat.beq e0 e1))
    |none=>none
   |none=>none
  |none=>none
 |_=>none
noncomputable def afO (X:Cx) (ih:AS→AC→Scr→Option (AC×AS×Scr)) (σ:AS) (nm k:Nat) (m:Lin) (s:Scr):Option (AC×AS×Scr):=
 Bool.rec none (match findO nm σ.ob with
  |some (.F _ t ps m' nm2)=>afF X σ k m t ps m' nm2 s
  |some (.M e0 t ps m')=>afM X σ nm k m e0 t ps m' s
  |some (.X e0 cs)=>match afrs ih cs σ s with
   |some (cs',σ1,s)=>afX X σ1 nm k m e0 cs' s
   |none=>none
  |_=>none) (okNames σ)
noncomputable def afr (X:Cx) (n:Nat):AS→AC→Scr→Option (AC×AS×Scr):=
 Nat.rec (fun _ _ _=>none) (fun _ ih σ c s=>match c with
  | .own nm k m=>afO X ih σ nm k m s
  |c=>Bool.rec none (some (c,σ,s)) (isP c)) n
section
variable{X:Cx}
def FrR (X:Cx) (e:AEnv) (σ:AS) (g:GS) (hp':List GO) (u:U) (c':AC) (σ':AS):Prop:=
 σ.nv≤σ'.nv∧σ'.ft=σ.ft∧∃e1,Agr σ.nv e e1∧∀e',Agr σ'.nv e1 e'→Holds X e' σ' ⟨g.tm,hp'⟩∧gaC X e' c' (.v u)
def FrRs (X:Cx) (e:AEnv) (σ:AS) (g:GS) (hp':List GO) (us:List U) (cs':List AC) (σ':AS):Prop:=
 σ.nv≤σ'.nv∧σ'.ft=σ.ft∧∃e1,Agr σ.nv e e1∧∀e',Agr σ'.nv e1 e'→Holds X e' σ' ⟨g.tm,hp'⟩∧Al (gaC X e') cs' (us.map .v)
theorem isP_ok {e:AEnv} {c:AC} {x:G} (h:isP c=true) (hx:gaC X e c x):∃u,x=.v u:=by
 cases c<;>simp only[isP,Bool.false_eq_true]at h
 case int=>exact⟨_,hx⟩
 case bool=>exact⟨_,hx⟩
 case str=>obtain⟨l,h1,_⟩:=hx;exact⟨_,h1⟩
 case un=>exact⟨_,hx⟩
 case np=>exact⟨_,hx⟩
 case nil=>exact⟨_,hx⟩
 case sl=>rcases hx with⟨h1,_⟩|⟨_,_,h1,_⟩<;>exact⟨_,h1⟩
theorem frs_v (f:List GO→G→Option (List GO×U)) (hf:∀hp u,f hp (.v u)=some (hp,u)):∀(us:List U) (hp:List GO),frs f (us.map .v) hp=some (hp,us)
 |[],hp=>rfl
 |u::us,hp=>by
  show(match f hp (.v u)with
   |some (hp,u)=>match frs f (us.map .v) hp with|some (hp,us)=>some (hp,u::us)|none=>none
   |none=>none)=some (hp,u::us)
  rw[hf];simp only[frs_v f hf us hp]
theorem frz_v (n:Nat) (hp:List GO) (u:U):frz (n+1) hp (.v u)=some (hp,u):=rfl
theorem frz_own {n i k m:Nat} {hp hp1:List GO} {e:Nat} {fr:Bool} {cs:List G} {us:List U} {fr1:Bool} {cs1:List G} (h1:hp[i]?=some (.ob e fr cs)) (h2:frs (frz n) cs hp=some (hp1,us)) (h3:hp1[i]?=some (.ob e fr1 cs1)) (h5:us.length=m*k):
 frz (n+1) hp (.own i k m)=some (setO hp1 i (.ob e true (us.map .v)),.fz k m us):=by
 have hb:(Bool.rec false (Nat.beq e e) (Nat.beq (V.len us) (m*k)):Bool)=true:=by
  have:Nat.beq (V.len us) (m*k)=true:=by rw[len_eq,beq_iff];exact h5
  rw[this];exact Nat.beq_refl e
 show(match nth hp i with
  |some (GO.ob e fr cs)=>(match frs (frz n) cs hp with
   |some (hp',us)=>(match nth hp' i with
    |some (GO.ob e' fr' _)=>(Bool.rec none (some (setO hp' i (GO.ob e' true (mapsV us)),U.fz k m us)) (Bool.rec false (Nat.beq e e') (Nat.beq (V.len us) (m*k)):Bool):Option (List GO×U))
    |_=>none)
   |none=>none)
  |_=>none)=_
 rw[nth_eq,h1];simp only[h2,nth_eq,h3];rw[hb,mapsV_eq]
theorem setO_same {l:List GO} {i:Nat} {o:GO} (h:l[i]?=some o):setO l i o=l:=by
 refine List.ext_getElem? fun j=>?_
 rw[setO_get (lt_of_get h)]
 split
 ·rename_i hj;subst hj;exact h.symm
 ·rfl
theorem mapv_inj {a b:List U} (h:a.map G.v=b.map G.v):a=b:=by
 induction a generalizing b with
 |nil=>cases b with
  |nil=>rfl
  |cons _ _=>cases h
 |cons x a ih=>cases b with
  |nil=>cases h
  |cons y b=>rw[List.map_cons,List.map_cons]at h;injection h with h1 h2;cases h1;rw[ih h2]
theorem own_at {e:AEnv} {nm k i k' m0:Nat} {m:Lin} (h:gaC X e (.own nm k m) (.own i k' m0)):e.on nm=true∧e.ν nm=i∧k'=k∧(m0:Int)=lv e.ρ m:=by
 rcases h with⟨h1,m1,h2,h3⟩|⟨_,h3,_⟩
 ·cases h3;exact⟨h1,rfl,rfl,h2⟩
 ·cases h3
theorem own_nil {e:AEnv} {nm k:Nat} {m:Lin} (h:gaC X e (.own nm k m) (.v .nil)):e.on nm=false∧lv e.ρ m=0:=by
 rcases h with⟨h1,m1,h2,h3⟩|⟨h1,_,h3⟩
 ·cases h3
 ·exact⟨h1,h3⟩
theorem own_or {e:AEnv} {nm k:Nat} {m:Lin} {x:G} (h:gaC X e (.own nm k m) x):x=.v .nil∨∃i m0,x=.own i k m0:=by
 rcases h with⟨h1,m1,h2,h3⟩|⟨h1,h2,h3⟩
 ·exact .inr ⟨_,_,h3⟩
 ·exact .inl h2
theorem nofree {σ:AS} (h:okNames σ=true):∀a,findO σ.nv σ.ob=some a→False:=by
 intro a ha;obtain⟨z,hz,hzn⟩:=findO_mem ha;have:=(ble_iff _ _).1 (all_true h z hz);omega
theorem named {σ:AS} (h:okNames σ=true) {n:Nat} {a:AO} (ha:findO n σ.ob=some a):n<σ.nv:=by
 obtain⟨z,hz,hzn⟩:=findO_mem ha;have:=(ble_iff _ _).1 (all_true h z hz);omega
theorem afF_ok {e:AEnv} {σ σ':AS} {g:GS} {nm k t e0 nm2 n:Nat} {m m':Lin} {ps:List Lin} {c':AC} {s s':Scr} {x:G} (hW:W X e σ g) (hf:findO nm σ.ob=some (.F e0 t ps m' nm2)) (h:afF X σ k m t ps m' nm2 s=some (c',σ',s'))
 (hx:∀e',Agr σ.nv e e'→gaC X e' (.own nm k m) x):∃hp' u,frz (n+2) g.hp x=some (hp',u)∧FrR X e σ g hp' u c' σ':=by
 unfold afF at h
 split at h
 case h_2=>cases h
 rename_i k' hk';rw[brec']at h
 split at h
 case isFalse=>cases h
 rename_i hkk;rw[beq_iff]at hkk;subst hkk
 split at h
 case h_2=>cases h
 rename_i s1 hs1
 cases h
 rcases own_or (hx e (.refl _ _))with rfl|⟨i,m0,rfl⟩
 ·exact⟨g.hp,.nil,rfl,Nat.le_refl _,rfl,e,.refl _ _,fun e' he=>⟨hW e' he,.inl ⟨rfl,(own_nil (hx e' he)).2⟩⟩⟩
 ·obtain⟨hon,hν,_,hm0⟩:=own_at (hx e (.refl _ _))
  obtain⟨o,ho,k0,m1,rfl,hm1,hc⟩:=hW.holds.ob nm _ hf hon;rw[hν]at ho;have hmm:m1=m0:=by have:=same_ok hW.holds.fa hs1;omega
  subst hmm;have hkk:k0=k:=by have:=hc.1;rw[hk']at this;exact(Option.some.inj this).symm
  subst hkk;have hfr:=frz_own (n:=n+1) (m:=m1) (k:=k0) ho (frs_v (frz (n+1)) (frz_v n) (e.L nm2) g.hp) ho hc.2.1;rw[setO_same ho]at hfr;refine⟨g.hp,_,hfr,Nat.le_refl _,rfl,e,.refl _ _,fun e' he=>⟨hW e' he,.inr ?_⟩⟩;obtain⟨hon',hν',_,hm0'⟩:=own_at (hx e' he);obtain⟨o',ho',k2,m2,rfl,hm2,hc2⟩:=(hW e' he).ob nm _ hf hon';rw[hν',ho]at ho';have hL:=congrArg (fun o=>match o with|some (GO.ob _ _ cs)=>cs|_=>[]) ho';have hL:e.L nm2=e'.L nm2:=mapv_inj hL;have hk2:k2=k0:=by have:=hc2.1;rw[hk']at this;exact(Option.some.inj this).symm
  subst hk2;have hmm2:m2=m1:=by have:=same_ok (hW e' he).fa hs1;omega
  subst hmm2;exact⟨k2,m2,by rw[hL],hm0',hc2⟩
theorem freeze_step {e:AEnv} {σ:AS} {g:GS} {nm k t e0 i m0:Nat} {m:Lin} {ps:List Lin} {ao:AO} {us:List U} {fr1:Bool} {cs1:List G} (hW:W X e σ g) (hnm:okNames σ=true) (hf:findO nm σ.ob=some ao)
 (hx:∀e',Agr σ.nv e e'→gaC X e' (.own nm k m) (.own i k m0)) (hg:g.hp[i]?=some (.ob e0 fr1 cs1)) (hc:∀e',Agr σ.nv e e'→CfL X.T t (ps.map (lv e'.ρ)) k m0 us):
 FrR X e σ g (setO g.hp i (.ob e0 true (us.map .v))) (.fz k m0 us) (.sl t ps m σ.nv) (bump 1 (putO nm (.F e0 t ps m σ.nv) σ)):=by
 refine⟨Nat.le_succ _,rfl,e.put σ.nv 0 0 false us,agr_put _ _ _ _ _ _,fun e' he=>?_⟩;have he:Agr (σ.nv+1) (e.put σ.nv 0 0 false us) e':=he;obtain⟨_,_,_,hL⟩:=put_at _ _ _ _ _ _ he;have hee:Agr σ.nv e e':=(agr_put e σ.nv 0 0 false us).trans (he.mono (by omega));obtain⟨hon,hν,_,hm0⟩:=own_at (hx e' hee);have hH:=setO_ok (hW e' hee) hf hon (ao':=.F e0 t ps m σ.nv) (o:=.ob e0 true (us.map .v)) ⟨k,m0,by rw[hL],hm0,by rw[hL];exact hc e' hee⟩;rw[hν]at hH;exact⟨bump_holds hH,.inr ⟨k,m0,by rw[hL],hm0,by rw[hL];exact hc e' hee⟩⟩
theorem afM_ok {e:AEnv} {σ σ':AS} {g:GS} {nm k t e0 n:Nat} {m m':Lin} {ps:List Lin} {c':AC} {s s':Scr} {x:G} (hW:W X e σ g) (hnm:okNames σ=true) (hf:findO nm σ.ob=some (.M e0 t ps m')) (h:afM X σ nm k m e0 t ps m' s=some (c',σ',s'))
 (hx:∀e',Agr σ.nv e e'→gaC X e' (.own nm k m) x):∃hp' u,frz (n+2) g.hp x=some (hp',u)∧FrR X e σ g hp' u c' σ':=by
 unfold afM at h
 split at h
 case h_2=>cases h
 rename_i k' hk';rw[brec']at h
 split at h
 case isFalse=>cases h
 rename_i hkk;rw[beq_iff]at hkk;subst hkk
 split at h
 case h_2=>cases h
 rename_i s1 hs1
 cases h
 rcases own_or (hx e (.refl _ _))with rfl|⟨i,m0,rfl⟩
 ·refine⟨g.hp,.nil,rfl,Nat.le_succ _,rfl,e,.refl _ _,fun e' he=>?_⟩
  have he:Agr (σ.nv+1) e e':=he;have hee:=he.mono (Nat.le_succ σ.nv);obtain⟨hoff,hm⟩:=own_nil (hx e' hee);exact⟨bump_holds (offO_ok (hW e' hee) hf hoff),.inl ⟨rfl,hm⟩⟩
 ·obtain⟨hon,hν,_,hm0⟩:=own_at (hx e (.refl _ _))
  obtain⟨o,ho,us,k0,m1,rfl,hm1,hc⟩:=hW.holds.ob nm _ hf hon;rw[hν]at ho;have hmm:m1=m0:=by have:=same_ok hW.holds.fa hs1;omega
  subst hmm;have hkk:k0=k:=by have:=hc.1;rw[hk']at this;exact(Option.some.inj this).symm
  subst hkk;have hfr:=frz_own (n:=n+1) (m:=m1) (k:=k0) ho (frs_v (frz (n+1)) (frz_v n) us g.hp) ho hc.2.1;refine⟨_,_,hfr,freeze_step hW hnm hf hx ho fun e' he=>?_⟩;obtain⟨hon',hν',_,hm0'⟩:=own_at (hx e' he);obtain⟨o',ho',us2,k2,m2,rfl,hm2,hc2⟩:=(hW e' he).ob nm _ hf hon';rw[hν',ho]at ho';have hL:=congrArg (fun o=>match o with|some (GO.ob _ _ cs)=>cs|_=>[]) ho';have hL:us=us2:=mapv_inj hL;subst hL;have hk2:k2=k0:=by have:=hc2.1;rw[hk']at this;exact(Option.some.inj this).symm
  subst hk2;have hmm2:m2=m1:=by have:=same_ok (hW e' he).fa hs1;omega
  subst hmm2;exact hc2
theorem afrs_cons (f:AS→AC→Scr→Option (AC×AS×Scr)) (c:AC) (cs:List AC) (σ:AS) (s:Scr):afrs f (c::cs) σ s=match f σ c s with
 |some (c,σ,s)=>match afrs f cs σ s with|some (cs,σ,s)=>some (c::cs,σ,s)|none=>none
 |none=>none:=rfl
theorem afrs_len {f:AS→AC→Scr→Option (AC×AS×Scr)}:∀{cs cs':List AC} {σ σ':AS} {s s':Scr},afrs f cs σ s=some (cs',σ',s')→cs'.length=cs.length
 |[],cs',σ,σ',s,s',h=>by
  have h:some (([]:List AC),σ,s)=some (cs',σ',s'):=h
  cases h;rfl
 |c::cs,cs',σ,σ',s,s',h=>by
  rw[afrs_cons]at h
  split at h
  case h_2=>cases h
  split at h
  case h_2=>cases h
  rename_i h2
  cases h
  rw[List.length_cons,List.length_cons,afrs_len h2]
theorem afrs_ok {f:AS→AC→Scr→Option (AC×AS×Scr)} {n:Nat}
 (hf:∀{e:AEnv} {σ:AS} {g:GS} {c c':AC} {σ':AS} {s s':Scr} {x:G},W X e σ g→f σ c s=some (c',σ',s')→(∀e',Agr σ.nv e e'→gaC X e' c x)→∃hp' u,frz n g.hp x=some (hp',u)∧FrR X e σ g hp' u c' σ'):
 ∀{cs cs':List AC} {e:AEnv} {σ σ':AS} {g:GS} {s s':Scr} {xs:List G},W X e σ g→afrs f cs σ s=some (cs',σ',s')→(∀e',Agr σ.nv e e'→Al (gaC X e') cs xs)→∃hp' us,frs (frz n) xs g.hp=some (hp',us)∧FrRs X e σ g hp' us cs' σ'∧cs'.length=cs.length
 |[],cs',e,σ,σ',g,s,s',xs,hW,h,hx=>by
  have h:some (([]:List AC),σ,s)=some (cs',σ',s'):=h
  cases h
  cases hx e (.refl _ _)
  exact⟨g.hp,[],rfl,⟨Nat.le_refl _,rfl,e,.refl _ _,fun e' he=>⟨hW e' he,.nil⟩⟩,rfl⟩
 |c::cs,cs',e,σ,σ',g,s,s',xs,hW,h,hx=>by
  rw[afrs_cons]at h
  split at h
  case h_2=>cases h
  rename_i c1 σ1 s1 h1
  split at h
  case h_2=>cases h
  rename_i cs2 σ2 s2 h2
  cases h
  cases xs with
  |nil=>cases hx e (.refl _ _)
  |cons x xs=>
   obtain⟨hp1,u,k1,k2,k3,e1,k4,k5⟩:=hf hW h1 (x:=x) fun e' he=>by cases hx e' he;assumption
   obtain⟨hp2,us,m1,⟨m2,m3,e2,m4,m5⟩,m6⟩:=afrs_ok (fun a b c=>hf a b c) (g:=⟨g.tm,hp1⟩) (σ:=σ1) (e:=e1) (xs:=xs) (fun e' he=>(k5 e' he).1) h2 fun e' he=>by
    cases hx e' (k4.trans (he.mono k2));assumption
   refine⟨hp2,u::us,?_,⟨Nat.le_trans k2 m2,m3.trans k3,e2,k4.trans (m4.mono k2),fun e' he=>?_⟩,by simp[m6]⟩
   ·show(match frz n g.hp x with
     |some (hp,u)=>match frs (frz n) xs hp with|some (hp,us)=>some (hp,u::us)|none=>none
     |none=>none)=some (hp2,u::us)
    rw[k1];simp only[m1]
   ·obtain⟨q1,q2⟩:=m5 e' he
    exact⟨q1,.cons (k5 e' (m4.trans (he.mono m2))).2 q2⟩
theorem lnat_ok {x:Lin} {n:Nat} (h:lnat x=some n) (ρ:Nat→Int):lv ρ x=n:=by
 unfold lnat at h
 split at h
 ·cases h;show(Int.ofNat _)+0=_;rw[Int.add_zero];rfl
 ·cases h
theorem afX_ok {e:AEnv} {σ σ1 σ':AS} {g:GS} {nm k e0 n:Nat} {m:Lin} {cs cs':List AC} {c':AC} {s s':Scr} {x:G} (hW:W X e σ g) (hnm:okNames σ=true) (hf:findO nm σ.ob=some (.X e0 cs))
 (hfr:∀{xs:List G},(∀e',Agr σ.nv e e'→Al (gaC X e') cs xs)→∃hp' us,frs (frz (n+1)) xs g.hp=some (hp',us)∧FrRs X e σ g hp' us cs' σ1∧cs'.length=cs.length) (h1:cs=[]→σ1=σ)
 (h:afX X σ1 nm k m e0 cs' s=some (c',σ',s')) (hx:∀e',Agr σ.nv e e'→gaC X e' (.own nm k m) x) (hlen:cs'.length=cs.length):∃hp' u,frz (n+2) g.hp x=some (hp',u)∧FrR X e σ g hp' u c' σ':=by
 unfold afX at h
 split at h
 case h_2=>cases h
 rename_i e1 csx hf1
 split at h
 case h_2=>cases h
 rename_i t ht
 split at h
 case h_2=>cases h
 rename_i ty hty
 split at h
 case h_2=>cases h
 rename_i m0 hm0;rw[brec']at h
 split at h
 case isFalse=>cases h
 rename_i hb;rw[brec']at hb
 split at hb
 case isFalse=>cases hb
 rename_i he01;rw[beq_iff]at he01;subst he01;rw[brec']at hb
 split at hb
 case isFalse=>cases hb
 rename_i hkk;rw[beq_iff]at hkk
 split at h
 case h_2=>cases h
 rename_i s2 hs2
 cases h
 have hk:kOf X.T t=some k:=by rw[kOf_of hty,hkk]
 rcases own_or (hx e (.refl _ _))with rfl|⟨i,mi,rfl⟩
 ·have hm:=(own_nil (hx e (.refl _ _))).2
  rw[lnat_ok hm0]at hm;have:m0=0:=by omega
  subst this;have hcs':cs'=[]:=by
   cases cs' with
   |nil=>rfl
   |cons c cs'=>cases hs2
  have hcs:cs=[]:=by
   rw[hcs']at hlen;exact List.eq_nil_of_length_eq_zero hlen.symm
  have:=h1 hcs;subst this;refine⟨g.hp,.nil,rfl,Nat.le_succ _,rfl,e,.refl _ _,fun e' he=>?_⟩;have he:Agr (σ1.nv+1) e e':=he;have hee:=he.mono (Nat.le_succ σ1.nv);obtain⟨hoff,hm⟩:=own_nil (hx e' hee);exact⟨bump_holds (offO_ok (hW e' hee) hf hoff),.inl ⟨rfl,hm⟩⟩
 ·obtain⟨hon,hν,_,hmi⟩:=own_at (hx e (.refl _ _))
  obtain⟨o,ho,gs,rfl,hgs⟩:=hW.holds.ob nm _ hf hon;rw[hν]at ho;have hall:∀e',Agr σ.nv e e'→Al (gaC X e') cs gs:=by
   intro e' he;obtain⟨hon',hν',_,_⟩:=own_at (hx e' he);obtain⟨o',ho',gs',rfl,hgs'⟩:=(hW e' he).ob nm _ hf hon';rw[hν',ho]at ho'
   cases ho'
   exact hgs'
  obtain⟨hp1,us,k1,⟨k2,k3,e2,k4,k5⟩,_⟩:=hfr hall;have hmi0:mi=m0:=by rw[lnat_ok hm0]at hmi;omega
  subst hmi0;have hx1:∀e',Agr σ1.nv e2 e'→gaC X e' (.own nm k m) (.own i k mi):=fun e' he=>hx e' (k4.trans (he.mono k2))
  have hW1:W X e2 σ1 ⟨g.tm,hp1⟩:=fun e' he=>(k5 e' he).1
  obtain⟨hon1,hν1,_,_⟩:=own_at (hx1 e2 (.refl _ _));obtain⟨o1,ho1,gs1,rfl,_⟩:=hW1.holds.ob nm _ hf1 hon1;rw[hν1]at ho1;have hc:∀e',Agr σ1.nv e2 e'→CfL X.T t ((maps lK ty.dps).map (lv e'.ρ)) k mi us:=fun e' he=>acfL_ok (k5 e' he).1.fa hk hs2 (k5 e' he).2
  have hfz:=frz_own (n:=n+1) (m:=mi) (k:=k) ho k1 ho1 (hc e2 (.refl _ _)).2.1;obtain⟨q1,q2,e3,q3,q4⟩:=freeze_step hW1 hb hf1 hx1 ho1 hc;exact⟨_,_,hfz,Nat.le_trans k2 q1,q2.trans k3,e3,k4.trans (q3.mono k2),q4⟩
theorem afr_own (n:Nat) (σ:AS) (nm k:Nat) (m:Lin) (s:Scr):afr X (n+1) σ (.own nm k m) s=afO X (afr X n) σ nm k m s:=rfl
theorem afr_ok:∀{n:Nat} {e:AEnv} {σ:AS} {g:GS} {c c':AC} {σ':AS} {s s':Scr} {x:G},W X e σ g→afr X (n+1) σ c s=some (c',σ',s')→(∀e',Agr σ.nv e e'→gaC X e' c x)→
 ∃hp' u,frz (n+2) g.hp x=some (hp',u)∧FrR X e σ g hp' u c' σ':=by
 intro n
 induction n with
 |zero=>
  intro e σ g c c' σ' s s' x hW h hx;have pure:isP c=true→(Bool.rec none (some (c,σ,s)) (isP c):Option (AC×AS×Scr))=some (c',σ',s')→∃hp' u,frz 2 g.hp x=some (hp',u)∧FrR X e σ g hp' u c' σ':=by
   intro hp h;rw[hp]at h
   cases h
   obtain⟨u,rfl⟩:=isP_ok hp (hx e (.refl _ _));exact⟨g.hp,u,rfl,Nat.le_refl _,rfl,e,.refl _ _,fun e' he=>⟨hW e' he,hx e' he⟩⟩
  cases c with
  |own nm k m=>
   rw[afr_own]at h;unfold afO at h;rw[brec']at h
   split at h
   case isFalse=>cases h
   rename_i hnm
   split at h
   ·rename_i hf;exact afF_ok hW hf h hx
   ·rename_i hf;exact afM_ok hW hnm hf h hx
   ·rename_i e0 cs hf
    split at h
    case h_2=>cases h
    rename_i cs' σ1 s1 h1
    cases cs with
    |cons c cs=>rw[afrs_cons]at h1;cases h1
    |nil=>
     cases h1
     refine afX_ok hW hnm hf (cs':=[]) (σ1:=σ) (fun{xs} hxs=>?_) (fun _=>rfl) h hx rfl
     cases hxs e (.refl _ _)
     exact⟨g.hp,[],rfl,⟨Nat.le_refl _,rfl,e,.refl _ _,fun e' he=>⟨hW e' he,.nil⟩⟩,rfl⟩
   ·cases h
  |loc nm off=>cases h
  |eloc nm k n off=>cases h
  |floc nm ix k off=>cases h
  |int k x=>exact pure rfl h
  |bool b=>exact pure rfl h
  |str x=>exact pure rfl h
  |un=>exact pure rfl h
  |np=>exact pure rfl h
  |nil=>exact pure rfl h
  |sl t ps n nm=>exact pure rfl h
 |succ n ih=>
  intro e σ g c c' σ' s s' x hW h hx;have pure:isP c=true→(Bool.rec none (some (c,σ,s)) (isP c):Option (AC×AS×Scr))=some (c',σ',s')→∃hp' u,frz (n+3) g.hp x=some (hp',u)∧FrR X e σ g hp' u c' σ':=by
   intro hp h;rw[hp]at h
   cases h
   obtain⟨u,rfl⟩:=isP_ok hp (hx e (.refl _ _));exact⟨g.hp,u,rfl,Nat.le_refl _,rfl,e,.refl _ _,fun e' he=>⟨hW e' he,hx e' he⟩⟩
  cases c with
  |own nm k m=>
   rw[afr_own]at h;unfold afO at h;rw[brec']at h
   split at h
   case isFalse=>cases h
   rename_i hnm
   split at h
   ·rename_i hf;exact afF_ok (n:=n+1) hW hf h hx
   ·rename_i hf;exact afM_ok (n:=n+1) hW hnm hf h hx
   ·rename_i e0 cs hf
    split at h
    case h_2=>cases h
    rename_i cs' σ1 s1 h1;have hlen:=afrs_len h1;refine afX_ok (n:=n+1) hW hnm hf (fun{xs} hxs=>afrs_ok (fun a b c=>ih a b c) hW h1 hxs) (fun hc=>?_) h hx hlen;subst hc
    cases h1;rfl
   ·cases h
  |loc nm off=>cases h
  |eloc nm k n off=>cases h
  |floc nm ix k off=>cases h
  |int k x=>exact pure rfl h
  |bool b=>exact pure rfl h
  |str x=>exact pure rfl h
  |un=>exact pure rfl h
  |np=>exact pure rfl h
  |nil=>exact pure rfl h
  |sl t ps n nm=>exact pure rfl h
end
end Go.Proofs.YtiahijhpjloijaaGreat.V

