/- Parts of the proof, put together: S1, S2, S3, S4, S5. -/
import Derived.Test.YtiahijhpjloijaaGreatM14
import Derived.Test.YtiahijhpjloijaaGreatM10
import Derived.Test.YtiahijhpjloijaaGreatM6
set_option linter.unusedVariables false
set_option linter.unusedSimpArgs false
namespace Go.Proofs.YtiahijhpjloijaaGreat.V
open Go
section
variable{P:Program} {O:Oracle2} {dst:Option Pos} {gd:Option (Pos×Bool)} {r fr:Nat} {tm:Tr GD} {hp:List GO}
theorem gpast {p q:Pos} {d e:GD} (h:Pos.same p q=false) (k:Tr.get q tm=some e):Tr.get q (gput (some p) d tm)=some e:=
 (Tr.get_set_ne d tm (fun e=>by rw[Pos.same_spec.2 e]at h;cases h)).trans k
theorem vhit {p:Pos} {d:GD}:gval (gput (some p) d tm) (.t p)=some d:=Tr.get_set_eq d p tm
theorem gQ {p:Pos} {e:GD} (h:gval tm (.t p)=some e):Tr.get p (GS.mk tm hp).tm=some e:=h
theorem v1 {p q:Pos} {d e:GD} (h:Pos.same p q=false) (k:gval tm (.t q)=some e):gval (gput (some p) d tm) (.t q)=some e:=gpast h k
theorem v2 {a b q:Pos} {d d' e:GD} (h:(Pos.same a q||Pos.same b q)=false) (k:gval tm (.t q)=some e):gval (gput (some a) d (gput (some b) d' tm)) (.t q)=some e:=
 v1 (Bool.or_eq_false_iff.1 h).1 (v1 (Bool.or_eq_false_iff.1 h).2 k)
theorem v4 {a b c f q:Pos} {x y z w e:GD} (h:((Pos.same a q||Pos.same b q)||(Pos.same c q||Pos.same f q))=false) (k:gval tm (.t q)=some e):gval (gput (some a) x (gput (some b) y (gput (some c) z (gput (some f) w tm)))) (.t q)=some e:=
 v2 (Bool.or_eq_false_iff.1 h).1 (v2 (Bool.or_eq_false_iff.1 h).2 k)
theorem v8 {a b c f a' b' c' f' q:Pos} {x y z w x' y' z' w' e:GD} (h:(((Pos.same a q||Pos.same b q)||(Pos.same c q||Pos.same f q))||((Pos.same a' q||Pos.same b' q)||(Pos.same c' q||Pos.same f' q)))=false) (k:gval tm (.t q)=some e):
 gval (gput (some a) x (gput (some b) y (gput (some c) z (gput (some f) w (gput (some a') x' (gput (some b') y' (gput (some c') z' (gput (some f') w' tm)))))))) (.t q)=some e:=
 v4 (Bool.or_eq_false_iff.1 h).1 (v4 (Bool.or_eq_false_iff.1 h).2 k)
theorem gq {p:Pos} {e:GD} (h:gval tm (.t p)=some e):Tr.get p tm=some e:=h
theorem grun {p:Pos} {b:Bool} (h:Tr.get p tm=some (.one (.v (.bool b)))):gguard (some (p,b)) tm=.run:=by
 unfold gguard;simp only[h];cases b<;>rfl
theorem gskip {p:Pos} {b:Bool} (h:Tr.get p tm=some (.one (.v (.bool (!b))))):gguard (some (p,b)) tm=.skip:=by
 unfold gguard;simp only[h];cases b<;>rfl
theorem gr {p:Pos} {b:Bool} (h:gval tm (.t p)=some (.one (.v (.bool b)))):gguard (some (p,b)) tm=.run:=grun h
theorem gcel_v {x:A} {g:G} (h:gval tm x=some (.one g)):gcel tm x=some g:=by unfold gcel;rw[h]
theorem gsc_v {x:A} {u:U} {c:C} (h:gval tm x=some (.one (.v u))) (hc:toC u=some c):gsc tm x=some c:=by unfold gsc;rw[gcel_v h];exact hc
theorem sSkip {op:I} (hg:gguard gd tm=.skip):gstep1 P O ⟨dst,gd,r,fr,op⟩ ⟨tm,hp⟩=some ⟨gput dst (.one (.v .un)) tm,hp⟩:=by unfold gstep1;rw[hg]
theorem sMv {x:A} {d:GD} (hg:gguard gd tm=.run) (h:gval tm x=some d):gstep1 P O ⟨dst,gd,r,fr,.mv x⟩ ⟨tm,hp⟩=some ⟨gput dst d tm,hp⟩:=by
 unfold gstep1;rw[hg];simp only[grd,h]
theorem sBin {op:BinOp} {t:TypeId} {x y:A} {a b:U} {ca cb c:C} {u:U} (hg:gguard gd tm=.run) (hx:gval tm x=some (.one (.v a))) (hy:gval tm y=some (.one (.v b))) (ha:toC a=some ca) (hb:toC b=some cb) (hc:cbin op ca cb=some c) (hu:cU c=some u):
 gstep1 P O ⟨dst,gd,r,fr,.bin op t x y⟩ ⟨tm,hp⟩=some ⟨gput dst (.one (.v u)) tm,hp⟩:=by
 unfold gstep1;rw[hg];have h1:gC (.v a)=some ca:=ha;have h2:gC (.v b)=some cb:=hb;have h3:cG c=some (.v u):=by unfold cG;rw[hu]
 simp only[grd,hx,hy,h1,h2,hc,s1,h3]
theorem sNot {x:A} {b:Bool} (hg:gguard gd tm=.run) (h:gval tm x=some (.one (.v (.bool b)))):gstep1 P O ⟨dst,gd,r,fr,.not x⟩ ⟨tm,hp⟩=some ⟨gput dst (.one (.v (.bool (Bool.rec true false b)))) tm,hp⟩:=by
 unfold gstep1;rw[hg];simp only[grd,gsc_v h rfl]
theorem sCvf {x:A} {k:IntKind} {n:Int} (hg:gguard gd tm=.run) (h:gval tm x=some (.one (.v (.int k n)))):gstep1 P O ⟨dst,gd,r,fr,.cvf x⟩ ⟨tm,hp⟩=some ⟨gput dst (.one (.v (.flt (FloatKind.nearest .f64 n)))) tm,hp⟩:=by
 unfold gstep1;rw[hg];simp only[grd,gsc_v h rfl]
theorem sCvi {k k':IntKind} {x:A} {n:Int} (hg:gguard gd tm=.run) (h:gval tm x=some (.one (.v (.int k' n)))):gstep1 P O ⟨dst,gd,r,fr,.cvi k x⟩ ⟨tm,hp⟩=some ⟨gput dst (.one (.v (.int k (wrapC k n)))) tm,hp⟩:=by
 unfold gstep1;rw[hg];simp only[grd,gsc_v h rfl]
theorem sNeg {x:A} {k:IntKind} {n:Int} (hg:gguard gd tm=.run) (h:gval tm x=some (.one (.v (.int k n)))):gstep1 P O ⟨dst,gd,r,fr,.neg x⟩ ⟨tm,hp⟩=some ⟨gput dst (.one (.v (.int k (k.wrap (BitVec.ofInt k.bits (if k.signed then -1 else k.max)^^^BitVec.ofInt k.bits n).toNat)))) tm,hp⟩:=by
 unfold gstep1;rw[hg];simp only[grd,gsc_v h rfl]
theorem sPick {c x y:A} {b:Bool} {d:GD} (hg:gguard gd tm=.run) (hc:gval tm c=some (.one (.v (.bool b)))) (h:gval tm (bif b then x else y)=some d):gstep1 P O ⟨dst,gd,r,fr,.pick c x y⟩ ⟨tm,hp⟩=some ⟨gput dst d tm,hp⟩:=by
 unfold gstep1;rw[hg];simp only[grd,gsc_v hc rfl,h]
theorem sLenF {x:A} {k n:Nat} {l:List U} (hg:gguard gd tm=.run) (h:gval tm x=some (.one (.v (.fz k n l)))):gstep1 P O ⟨dst,gd,r,fr,.len false x⟩ ⟨tm,hp⟩=some ⟨gput dst (.one (.v (.int .i64 (.ofNat n)))) tm,hp⟩:=by
 unfold gstep1;rw[hg];simp only[grd,gcel_v h]
theorem sLenN {x:A} (hg:gguard gd tm=.run) (h:gval tm x=some (.one (.v .nil))):gstep1 P O ⟨dst,gd,r,fr,.len false x⟩ ⟨tm,hp⟩=some ⟨gput dst (.one (.v (.int .i64 0))) tm,hp⟩:=by
 unfold gstep1;rw[hg];simp only[grd,gcel_v h]
theorem sIasF {k k0 n:Nat} {x ix:A} {l:List U} {kj:IntKind} {j:Nat} (hg:gguard gd tm=.run) (h:gval tm x=some (.one (.v (.fz k0 n l)))) (hi:gval tm ix=some (.one (.v (.int kj (.ofNat j))))) (hj:j<n):
 gstep1 P O ⟨dst,gd,r,fr,.ias k x ix⟩ ⟨tm,hp⟩=some ⟨gput dst (.one (.floc l (j*k))) tm,hp⟩:=by
 unfold gstep1;rw[hg];have h1:idx (.ofNat j) n=some j:=by
  show(Bool.rec none (some j) (Nat.ble (Nat.succ j) n):Option Nat)=_;rw[(ble_iff _ _).2 hj]
 simp only[grd,gcel_v h,gsc_v hi (c:=.int kj (.ofNat j)) rfl,h1]
theorem sLdF {k:Nat} {ag:Bool} {x:A} {l:List U} {o:Nat} {d:GD} (hg:gguard gd tm=.run) (h:gval tm x=some (.one (.floc l o))) (hk:len (take k (drop o l))=k) (hd:gasD ag (mapsV (take k (drop o l)))=some d):
 gstep1 P O ⟨dst,gd,r,fr,.ld k ag x⟩ ⟨tm,hp⟩=some ⟨gput dst d tm,hp⟩:=by
 unfold gstep1;rw[hg];have h1:Nat.beq (len (take k (drop o l))) k=true:=(beq_iff _ _).2 hk;simp only[grd,gcel_v h,h1,hd]
theorem sCall {f:Nat} {xs:List A} {ds:List GD} {d:GD} {hp':List GO} (hg:gguard gd tm=.run) (h:each (gval tm) xs=some ds) (hc:gcall O f ds hp=some (d,hp')):
 gstep1 P O ⟨dst,gd,r,fr,.call f xs⟩ ⟨tm,hp⟩=some ⟨gput dst d tm,hp'⟩:=by
 unfold gstep1;rw[hg];simp only[h,hc]
theorem ggo {Q:GS→Prop} {x:Ins} {l:List Ins} {g g1:GS} (h:gstep1 P O x g=some g1) (h':∃t,gsteps P O l g1=some t∧Q t):∃t,gsteps P O (x::l) g=some t∧Q t:=by
 obtain⟨t,h1,h2⟩:=h';exact⟨t,by rw[asg_cons,h];exact h1,h2⟩
theorem gnil {Q:GS→Prop} {g:GS} (h:Q g):∃t,gsteps P O [] g=some t∧Q t:=⟨g,rfl,h⟩
theorem vblk {n na:Nat} {l:List Ins} {g g':GS} (h:gsteps P O l g=some g'):gev P O n (.blk na l) g=.norm g':=by
 show(Option.rec .no (fun s=>.norm s) (gsteps P O l g):GOut)=_;rw[h]
theorem gstepsF_of {l:List (Nat×Ins)}:∀{g g':GS} {fs:List Ft2},gsteps P O (maps (fun z=>z.2) l) g=some g'→∃fs',gstepsF P O l g fs=some (g',fs'):=by
 induction l with
 |nil=>intro g g' fs h;have h:some g=some g':=h;cases h;exact⟨fs,rfl⟩
 |cons z l ih=>
  intro g g' fs h;have h:gsteps P O (z.2::maps (fun z=>z.2) l) g=some g':=h;rw[asg_cons]at h
  split at h
  ·rename_i g1 h1
   obtain⟨fs',h2⟩:=ih (fs:=gft z.2 g g1::fs) h;exact⟨fs',by rw[asgF_cons,h1];exact h2⟩
  ·cases h
theorem vdblk {n na:Nat} {l:List (Nat×Ins)} {g g':GS} (h:gsteps P O (maps (fun z=>z.2) l) g=some g'):gev P O n (.dblk na l []) g=.norm g':=by
 obtain⟨fs,h1⟩:=gstepsF_of (fs:=[]) h;show(match gstepsF P O l g []with
  |some (s',fs)=>(Bool.rec .no (.norm s') (gokF s'.hp fs (len l) []):GOut)
  |none=>.no)=_
 rw[h1];rfl
theorem vcond {n:Nat} {c:A} {a b:K} {g:GS} {t:Bool} (h:gval g.tm c=some (.one (.v (.bool t)))):gev P O n (.cond c a b) g=gev P O n (bif t then a else b) g:=by
 show(match gcel g.tm c with
  |some (.v (.bool t))=>(Bool.rec (gev P O n b g) (gev P O n a g) t:GOut)
  |_=>.no)=_
 rw[gcel_v h]
 cases t<;>rfl
theorem iter_up {f:GS→GOut} {I:Nat→GS→Prop} {N id:Nat} {Q:GS→Prop} (step:∀i g,i<N→I i g→∃g',f g=.norm g'∧I (i+1) g') (fin:∀g,I N g→∃g',f g=.exit id g'∧Q g'):
 ∀r i g fuel,i+r=N→r<fuel→I i g→∃g',giter f fuel g=.exit id g'∧Q g':=by
 intro r
 induction r with
 |zero=>
  intro i g fuel h1 h2 hI;obtain⟨fuel,rfl⟩:∃k,fuel=k+1:=⟨fuel-1,by omega⟩;have h1:i=N:=h1;subst h1;obtain⟨g',k1,k2⟩:=fin g hI;exact⟨g',by rw[giter_succ,k1],k2⟩
 |succ r ih=>
  intro i g fuel h1 h2 hI;obtain⟨fuel,rfl⟩:∃k,fuel=k+1:=⟨fuel-1,by omega⟩;obtain⟨g1,k1,k2⟩:=step i g (by omega) hI;obtain⟨g',k3,k4⟩:=ih (i+1) g1 fuel (by omega) (by omega) k2;exact⟨g',by rw[giter_succ,k1];exact k3,k4⟩
end
end Go.Proofs.YtiahijhpjloijaaGreat.V

namespace Go.Proofs.YtiahijhpjloijaaGreat.V
open Go
section
variable{P:Program} {O:Oracle2} {n:Nat} {Q:GOut→Prop} {g:GS}
def Wp (P:Program) (O:Oracle2) (n:Nat) (k:K) (g:GS) (Q:GOut→Prop):Prop:=Q (gev P O n k g)
def nxt (P:Program) (O:Oracle2) (n:Nat) (b:K) (Q:GOut→Prop):GOut→Prop
 | .norm g=>Wp P O n b g Q
 |o=>Q o
def blo (id:Nat) (Q:GOut→Prop):GOut→Prop
 | .exit j g=>Q (Bool.rec (.exit j g) (.norm g) (Nat.beq j id))
 |o=>Q o
theorem wSeq {a b:K} (h:Wp P O n a g (nxt P O n b Q)):Wp P O n (.seq a b) g Q:=by
 unfold Wp at*;have hs:gev P O n (.seq a b) g=GOut.rec (fun s=>gev P O n b s) (fun j s=>.exit j s) (fun s=>.ret s) .no (gev P O n a g):=rfl;rw[hs]
 cases hg:gev P O n a g with
 |norm g1=>rw[hg]at h;exact h
 |exit j g1=>rw[hg]at h;exact h
 |ret g1=>rw[hg]at h;exact h
 |no=>rw[hg]at h;exact h
theorem wBlk {na:Nat} {l:List Ins} (h:∃t,gsteps P O l g=some t∧Q (.norm t)):Wp P O n (.blk na l) g Q:=by
 obtain⟨t,h1,h2⟩:=h;unfold Wp;rw[vblk h1];exact h2
theorem wDblk {na:Nat} {l:List (Nat×Ins)} (h:∃t,gsteps P O (maps (fun z=>z.2) l) g=some t∧Q (.norm t)):Wp P O n (.dblk na l []) g Q:=by
 obtain⟨t,h1,h2⟩:=h;unfold Wp;rw[vdblk h1];exact h2
theorem wCond {c:A} {a b:K} {t:Bool} (hc:gval g.tm c=some (.one (.v (.bool t)))) (h:Wp P O n (bif t then a else b) g Q):Wp P O n (.cond c a b) g Q:=by
 unfold Wp at*;rw[vcond hc];exact h
theorem wBlock {id:Nat} {a:K} (h:Wp P O n a g (blo id Q)):Wp P O n (.block id a) g Q:=by
 unfold Wp at*;have hs:gev P O n (.block id a) g=GOut.rec (fun s=>.norm s) (fun j s=>Bool.rec (.exit j s) (.norm s) (Nat.beq j id)) (fun s=>.ret s) .no (gev P O n a g):=rfl;rw[hs]
 cases hg:gev P O n a g with
 |norm g1=>rw[hg]at h;exact h
 |exit j g1=>rw[hg]at h;exact h
 |ret g1=>rw[hg]at h;exact h
 |no=>rw[hg]at h;exact h
theorem wExit {id:Nat} (h:Q (.exit id g)):Wp P O n (.exit id) g Q:=h
theorem nNorm {b:K} (h:Wp P O n b g Q):nxt P O n b Q (.norm g):=h
theorem nRet {b:K} (h:Q (.ret g)):nxt P O n b Q (.ret g):=h
theorem nExit {b:K} {j:Nat} (h:Q (.exit j g)):nxt P O n b Q (.exit j g):=h
theorem bNorm {id:Nat} (h:Q (.norm g)):blo id Q (.norm g):=h
theorem bRet {id:Nat} (h:Q (.ret g)):blo id Q (.ret g):=h
theorem bExit {id:Nat} (h:Q (.norm g)):blo id Q (.exit id g):=by
 show Q (Bool.rec (.exit id g) (.norm g) (Nat.beq id id));rw[Nat.beq_refl];exact h
theorem wEx {a:K} {R:GS→Prop} {id:Nat} (h:∃t,gev P O n (.loop a) g=.exit id t∧R t) (hq:∀t,R t→Q (.exit id t)):Wp P O n (.loop a) g Q:=by
 obtain⟨t,h1,h2⟩:=h;unfold Wp;rw[h1];exact hq t h2
theorem wRet (h:Q (.ret g)):Wp P O n .ret g Q:=h
theorem wSkip (h:Q (.norm g)):Wp P O n .skip g Q:=h
theorem wBody {m:Nat} {kp:Bool} {b:Fn} {ds:List GD} {hp H:List GO} {d:GD} {tm:Tr GD} (hps:gpars b.ps ds .e=some tm) (h:Wp P O m b.k ⟨tm,hp⟩ (fun o=>∃g',(o=.ret g'∨o=.norm g')∧gends kp b g'=some (d,H))):gbody P O m kp b ds hp=some (d,H):=by
 unfold gbody;rw[hps];obtain⟨g',h1,h2⟩:=h;simp only[];rcases h1 with h1|h1<;>rw[h1]<;>exact h2
theorem gends_tmp {ps:List Pos} {k:K} {p:Pos} {g:GS} {u:U} (h:Tr.get p g.tm=some (.one (.v u))):gends false ⟨ps,[.tmp p],k⟩ g=some (.one (.v u),g.hp):=by
 unfold gends;have h1:each (grv g) [Rv.tmp p]=some [.one (.v u)]:=by
  have h0:grv g (.tmp p)=some (.one (.v u)):=h;rw[each_cons,each_nil,h0]
 simp only[h1];rfl
theorem wrap64' {m:Nat} (h:m≤9223372036854775807):wrapC .i64 (.ofNat m)=.ofNat m:=by
 have h:Nat.ble m 9223372036854775807=true:=Nat.ble_eq_true_of_le h;show(Bool.rec _ (Int.ofNat m) (Nat.ble m 9223372036854775807):Int)=_;rw[h]
theorem inc64 {i:Nat} (h:i<4611686018427387904):cbin .add (.int .i64 (.ofNat i)) (.int .i64 1)=some (.int .i64 (.ofNat (i+1))):=by
 show some (C.int .i64 (wrapC .i64 (.ofNat (i+1))))=_;rw[wrap64' (by omega)]
theorem ltT {i j:Nat} (h:i<j):cbin .lss (.int .i64 (.ofNat i)) (.int .i64 (.ofNat j))=some (.bool true):=by
 show some (C.bool (Nat.ble (Nat.succ i) j))=_;rw[(ble_iff _ _).2 h]
theorem ltF {i j:Nat} (h:j≤i):cbin .lss (.int .i64 (.ofNat i)) (.int .i64 (.ofNat j))=some (.bool false):=by
 show some (C.bool (Nat.ble (Nat.succ i) j))=_
 cases hb:Nat.ble (Nat.succ i) j with
 |false=>rfl
 |true=>rw[ble_iff]at hb;omega
theorem leT {i j:Nat} (h:i≤j):cbin .leq (.int .i64 (.ofNat i)) (.int .i64 (.ofNat j))=some (.bool true):=by
 show some (C.bool (Nat.ble i j))=_;rw[(ble_iff _ _).2 h]
theorem leF {i j:Nat} (h:j<i):cbin .leq (.int .i64 (.ofNat i)) (.int .i64 (.ofNat j))=some (.bool false):=by
 show some (C.bool (Nat.ble i j))=_
 cases hb:Nat.ble i j with
 |false=>rfl
 |true=>rw[ble_iff]at hb;omega
theorem ld1k {l:List U} {i:Nat} {u:U} (h:l[i]?=some u):len (take 1 (drop (i*1) l))=1:=by
 rw[Nat.mul_one,take_eq,drop_eq,len_eq,List.length_take,List.length_drop];have:=lt_of_get h;omega
theorem ld1d {l:List U} {i:Nat} {u:U} (h:l[i]?=some u):gasD false (mapsV (take 1 (drop (i*1) l)))=some (.one (.v u)):=by
 rw[Nat.mul_one,take_eq,drop_eq,mapsV_eq];obtain⟨hi,he⟩:=List.getElem?_eq_some_iff.1 h;rw[List.drop_eq_getElem_cons hi,he];rfl
theorem args1 {tm:Tr GD} {x:A} {d:GD} (h:gval tm x=some d):each (gval tm) [x]=some [d]:=by rw[each_cons,each_nil,h]
theorem args2 {tm:Tr GD} {x y:A} {d e:GD} (h:gval tm x=some d) (k:gval tm y=some e):each (gval tm) [x,y]=some [d,e]:=by rw[each_cons,args1 k,h]
theorem args3 {tm:Tr GD} {x y z:A} {d e f:GD} (h:gval tm x=some d) (k:gval tm y=some e) (l:gval tm z=some f):each (gval tm) [x,y,z]=some [d,e,f]:=by rw[each_cons,args2 k l,h]
theorem gcall_pure {f:Nat} {us:List U} {hp:List GO} {u:U} (h:O f (us.map fun u=>.one (.v u)) []=some (.one (.v u),[])):gcall O f (us.map fun u=>.one (.v u)) hp=some (.one (.v u),hp):=by
 have hp1:∀us:List U,gpure (us.map fun u=>GD.one (.v u)) hp=some (hp,us.map fun u=>.one (.v u)):=by
  intro us
  induction us with
  |nil=>rfl
  |cons x us ih=>
   show(match frz 8 hp (.v x)with
    |some (hp,u)=>match gpure (us.map fun u=>GD.one (.v u)) hp with|some (hp,ds)=>some (hp,GD.one (.v u)::ds)|none=>none
    |none=>none)=_
   show(match gpure (us.map fun u=>GD.one (.v u)) hp with|some (hp,ds)=>some (hp,GD.one (.v x)::ds)|none=>none)=_;rw[ih];rfl
 have hg:gargs hp (us.map fun u=>GD.one (.v u))=some (hp,us.map fun u=>.one (.v u),none,[]):=by
  cases us with
  |nil=>rfl
  |cons x us=>
   have:=hp1 (x::us);show(match gpure ((x::us).map fun u=>GD.one (.v u)) hp with|some (hp1,ds1)=>some (hp1,ds1,none,[])|none=>none)=_;rw[this]
 unfold gcall;rw[hg];simp only[h];show some (renGD _ (.one (.v u)),app hp (maps _ []))=_;rw[show maps (renGO (rn none (len hp))) []=[]from rfl,app_eq,List.append_nil];rfl
end
end Go.Proofs.YtiahijhpjloijaaGreat.V

namespace Go.Proofs.YtiahijhpjloijaaGreat.V
open Go
def L57:K:=match b57.k with| .seq _ (.seq (.seq _ (.block _ (.loop a))) _)=>a|_=>.skip
def L60:K:=match b60.k with| .seq _ (.seq _ (.seq (.seq _ (.block _ (.loop a))) _))=>a|_=>.skip
theorem loop57 {N:Nat} {l:List U} {X S:Nat→Nat} {P:Program} {O:Oracle2} {n:Nat} {hp:List GO} (hl:∀i,i<N→l[i]?=some (.flt (X i))) (hS:∀i,i<N→fbin .add (S i) (X i)=some (.flt (S (i+1)))) (hN:N<4611686018427387904) (hn:N<n) {tm:Tr GD} (k5:Tr.get p5 tm=some (.one (.v (.fz 1 N l)))) (k6:Tr.get p6 tm=some (.one (.v (.int .i64 (.ofNat N))))) (k7:Tr.get p7 tm=some (.one (.v (.int .i64 (.ofNat 0))))) (k2:Tr.get p2 tm=some (.one (.v (.flt (S 0))))):
 ∃t,gev P O n (.loop L57) ⟨tm,hp⟩=.exit 0 t∧t.hp=hp∧Tr.get p5 t.tm=some (.one (.v (.fz 1 N l)))∧Tr.get p6 t.tm=some (.one (.v (.int .i64 (.ofNat N))))∧Tr.get p7 t.tm=some (.one (.v (.int .i64 (.ofNat N))))∧Tr.get p2 t.tm=some (.one (.v (.flt (S N)))):=by
 refine iter_up (f:=gev P O n L57) (I:=fun i g=>g.hp=hp∧Tr.get p5 g.tm=some (.one (.v (.fz 1 N l)))∧Tr.get p6 g.tm=some (.one (.v (.int .i64 (.ofNat N))))∧Tr.get p7 g.tm=some (.one (.v (.int .i64 (.ofNat i))))∧Tr.get p2 g.tm=some (.one (.v (.flt (S i))))) (N:=N) (id:=0) (Q:=fun t=>t.hp=hp∧Tr.get p5 t.tm=some (.one (.v (.fz 1 N l)))∧Tr.get p6 t.tm=some (.one (.v (.int .i64 (.ofNat N))))∧Tr.get p7 t.tm=some (.one (.v (.int .i64 (.ofNat N))))∧Tr.get p2 t.tm=some (.one (.v (.flt (S N))))) ?_ ?_ N 0 ⟨tm,hp⟩ n (by omega) hn ⟨rfl,k5,k6,k7,k2⟩
 ·rintro i ⟨tm,hp1⟩ hi ⟨rfl,h5,h6,h7,h2⟩
  show Wp P O n L57 ⟨tm,hp1⟩ (fun o=>∃g',o=.norm g'∧g'.hp=hp1∧Tr.get p5 g'.tm=some (.one (.v (.fz 1 N l)))∧Tr.get p6 g'.tm=some (.one (.v (.int .i64 (.ofNat N))))∧Tr.get p7 g'.tm=some (.one (.v (.int .i64 (.ofNat (i+1)))))∧Tr.get p2 g'.tm=some (.one (.v (.flt (S (i+1))))));refine wSeq (wBlk (ggo (sBin (c:=.bool true) rfl h7 h6 rfl rfl (ltT hi) rfl) (gnil (nNorm (wSeq (wCond (t:=true) vhit (wSkip (nNorm (wSeq (wBlock (wSeq ?_)))))))))));refine wBlk (ggo (sIasF (j:=i) rfl (v1 rfl h5) (v1 rfl h7) hi) (ggo (sLdF (d:=.one (.v (.flt (X i)))) rfl vhit (ld1k (hl i hi)) (ld1d (hl i hi))) (ggo (sMv rfl vhit) (gnil (nNorm (wBlk (ggo (sMv rfl (v4 rfl h2)) (ggo (sMv rfl (v1 rfl vhit)) (ggo (sBin (c:=.flt (S (i+1))) rfl (v1 rfl vhit) vhit rfl rfl (hS i hi) rfl) (ggo (sMv rfl vhit) (gnil ?_)))))))))));refine bNorm (nNorm (wBlk (ggo (sBin (c:=.int .i64 (.ofNat (i+1))) rfl (v8 rfl h7) rfl rfl rfl (inc64 (by omega)) rfl) (ggo (sMv rfl vhit) (gnil ?_)))));refine⟨_,rfl,rfl,?_,?_,?_,?_⟩
  ·exact gQ (v8 rfl (v2 rfl h5))
  ·exact gQ (v8 rfl (v2 rfl h6))
  ·exact gQ vhit
  ·exact gQ (v2 rfl vhit)
 ·rintro ⟨tm,hp1⟩ ⟨rfl,h5,h6,h7,h2⟩
  show Wp P O n L57 ⟨tm,hp1⟩ (fun o=>∃g',o=.exit 0 g'∧g'.hp=hp1∧Tr.get p5 g'.tm=some (.one (.v (.fz 1 N l)))∧Tr.get p6 g'.tm=some (.one (.v (.int .i64 (.ofNat N))))∧Tr.get p7 g'.tm=some (.one (.v (.int .i64 (.ofNat N))))∧Tr.get p2 g'.tm=some (.one (.v (.flt (S N)))));refine wSeq (wBlk (ggo (sBin (c:=.bool false) rfl h7 h6 rfl rfl (ltF (Nat.le_refl _)) rfl) (gnil (nNorm (wSeq (wCond (t:=false) vhit (wExit (nExit ?_))))))));refine⟨_,rfl,rfl,?_,?_,?_,?_⟩
  ·exact gQ (v1 rfl h5)
  ·exact gQ (v1 rfl h6)
  ·exact gQ (v1 rfl h7)
  ·exact gQ (v1 rfl h2)
theorem sum57 {N:Nat} {l:List U} {X S:Nat→Nat} {P:Program} {O:Oracle2} {m:Nat} {hp:List GO} (hl:∀i,i<N→l[i]?=some (.flt (X i))) (hS:∀i,i<N→fbin .add (S i) (X i)=some (.flt (S (i+1)))) (hN:N<4611686018427387904) (h0:S 0=0) (hm:N<m):gbody P O m false b57 [.one (.v (.fz 1 N l))] hp=some (.one (.v (.flt (S N))),hp):=by
 refine wBody (tm:=(gput (some p0) (.one (.v (.fz 1 N l))) .e)) rfl (wSeq (wBlk (ggo (sMv rfl rfl) (gnil (nNorm (wSeq (wSeq (wBlk (ggo (sMv rfl rfl) (ggo (sLenF rfl rfl) (ggo (sMv rfl rfl) ?_)))))))))));refine gnil (nNorm (wBlock (wEx (loop57 hl hS hN hm rfl rfl rfl (by rw[h0];first|done|rfl)) ?_)))
 rintro ⟨tm1,hp1⟩ ⟨rfl,f5,f6,f7,f2⟩
 refine bExit (nNorm (wSeq (wBlk (ggo (sMv rfl f2) (ggo (sMv rfl vhit) (gnil (nNorm (wRet ?_))))))));exact⟨_,.inl rfl,gends_tmp (gQ vhit)⟩
theorem loop60 {N:Nat} {l:List U} {X S:Nat→Nat} {P:Program} {O:Oracle2} {n:Nat} {hp:List GO} (hl:∀i,i<N→l[i]?=some (.flt (X i))) (hS:∀i,i<N→fbin .add (S i) (X i)=some (.flt (S (i+1)))) (hN:N<4611686018427387904) (hn:N<n) {tm:Tr GD} (k0:Tr.get p0 tm=some (.one (.v (.fz 1 N l)))) (k3:Tr.get p3 tm=some (.one (.v (.flt (S 0))))) (k4:Tr.get p4 tm=some (.one (.v (.int .i64 (.ofNat 0))))):
 ∃t,gev P O n (.loop L60) ⟨tm,hp⟩=.exit 0 t∧t.hp=hp∧Tr.get p0 t.tm=some (.one (.v (.fz 1 N l)))∧Tr.get p3 t.tm=some (.one (.v (.flt (S N))))∧Tr.get p4 t.tm=some (.one (.v (.int .i64 (.ofNat N)))):=by
 refine iter_up (f:=gev P O n L60) (I:=fun i g=>g.hp=hp∧Tr.get p0 g.tm=some (.one (.v (.fz 1 N l)))∧Tr.get p3 g.tm=some (.one (.v (.flt (S i))))∧Tr.get p4 g.tm=some (.one (.v (.int .i64 (.ofNat i))))) (N:=N) (id:=0) (Q:=fun t=>t.hp=hp∧Tr.get p0 t.tm=some (.one (.v (.fz 1 N l)))∧Tr.get p3 t.tm=some (.one (.v (.flt (S N))))∧Tr.get p4 t.tm=some (.one (.v (.int .i64 (.ofNat N))))) ?_ ?_ N 0 ⟨tm,hp⟩ n (by omega) hn ⟨rfl,k0,k3,k4⟩
 ·rintro i ⟨tm,hp1⟩ hi ⟨rfl,h0,h3,h4⟩
  show Wp P O n L60 ⟨tm,hp1⟩ (fun o=>∃g',o=.norm g'∧g'.hp=hp1∧Tr.get p0 g'.tm=some (.one (.v (.fz 1 N l)))∧Tr.get p3 g'.tm=some (.one (.v (.flt (S (i+1)))))∧Tr.get p4 g'.tm=some (.one (.v (.int .i64 (.ofNat (i+1))))));refine wSeq (wSeq (wBlk (ggo (sMv rfl h4) (ggo (sMv rfl (v1 rfl h0)) (ggo (sLenF rfl vhit) (ggo (sBin (c:=.bool true) rfl (v2 rfl vhit) vhit rfl rfl (ltT hi) rfl) (gnil (nNorm (wCond (t:=true) vhit (wSkip (nNorm ?_)))))))))));refine wSeq (wBlock (wBlk (ggo (sMv rfl (v4 rfl h3)) (ggo (sMv rfl (v4 rfl (v1 rfl h0))) (ggo (sMv rfl (v4 rfl (v2 rfl h4))) (ggo (sIasF (j:=i) rfl (v1 rfl vhit) vhit hi) (ggo (sLdF (d:=.one (.v (.flt (X i)))) rfl vhit (ld1k (hl i hi)) (ld1d (hl i hi))) (ggo (sBin (c:=.flt (S (i+1))) rfl (v4 rfl vhit) vhit rfl rfl (hS i hi) rfl) (ggo (sMv rfl vhit) (gnil (bNorm ?_)))))))))));refine nNorm (wBlk (ggo (sMv rfl (v8 rfl (v2 rfl (v1 rfl h4)))) (ggo (sBin (c:=.int .i64 (.ofNat (i+1))) rfl vhit rfl rfl rfl (inc64 (by omega)) rfl) (ggo (sMv rfl vhit) (gnil ?_)))));refine⟨_,rfl,rfl,?_,?_,?_⟩
  ·exact gQ (v8 rfl (v4 rfl (v2 rfl h0)))
  ·exact gQ (v2 rfl (v1 rfl vhit))
  ·exact gQ vhit
 ·rintro ⟨tm,hp1⟩ ⟨rfl,h0,h3,h4⟩
  show Wp P O n L60 ⟨tm,hp1⟩ (fun o=>∃g',o=.exit 0 g'∧g'.hp=hp1∧Tr.get p0 g'.tm=some (.one (.v (.fz 1 N l)))∧Tr.get p3 g'.tm=some (.one (.v (.flt (S N))))∧Tr.get p4 g'.tm=some (.one (.v (.int .i64 (.ofNat N)))));refine wSeq (wSeq (wBlk (ggo (sMv rfl h4) (ggo (sMv rfl (v1 rfl h0)) (ggo (sLenF rfl vhit) (ggo (sBin (c:=.bool false) rfl (v2 rfl vhit) vhit rfl rfl (ltF (Nat.le_refl _)) rfl) (gnil (nNorm (wCond (t:=false) vhit (wExit (nExit ?_)))))))))));refine⟨_,rfl,rfl,?_,?_,?_⟩
  ·exact gQ (v4 rfl h0)
  ·exact gQ (v4 rfl h3)
  ·exact gQ (v4 rfl h4)
theorem sum60 {N:Nat} {l:List U} {X S:Nat→Nat} {P:Program} {O:Oracle2} {m:Nat} {hp:List GO} (hl:∀i,i<N→l[i]?=some (.flt (X i))) (hS:∀i,i<N→fbin .add (S i) (X i)=some (.flt (S (i+1)))) (hN:N<4611686018427387904) (h0:S 0=0) (hm:N<m):gbody P O m false b60 [.one (.v (.fz 1 N l))] hp=some (.one (.v (.flt (S N))),hp):=by
 refine wBody (tm:=(gput (some p0) (.one (.v (.fz 1 N l))) .e)) rfl (wSeq (wBlk (ggo (sMv rfl rfl) (gnil (nNorm (wSeq (wBlk (ggo (sMv rfl rfl) (gnil (nNorm (wSeq ?_)))))))))));refine wSeq (wBlk (ggo (sMv rfl rfl) (gnil (nNorm (wBlock (wEx (loop60 hl hS hN hm rfl (by rw[h0];first|done|rfl) rfl) ?_))))))
 rintro ⟨tm1,hp1⟩ ⟨rfl,f0,f3,f4⟩
 refine bExit (nNorm (wSeq (wBlk (ggo (sMv rfl f3) (ggo (sMv rfl vhit) (gnil (nNorm (wRet ?_))))))));exact⟨_,.inl rfl,gends_tmp (gQ vhit)⟩
end Go.Proofs.YtiahijhpjloijaaGreat.V

namespace Go.Proofs.YtiahijhpjloijaaGreat.V
open Go
theorem ratio27 {h t:Int} {c:C} {u:U} {P:Program} {O:Oracle2} {m:Nat} {hp:List GO} (hq:cbin .quo (.flt (FloatKind.nearest .f64 h)) (.flt (FloatKind.nearest .f64 t))=some c) (hu:cU c=some u):gbody P O m false b27 [.one (.v (.int .i64 h)),.one (.v (.int .i64 t))] hp=some (.one (.v u),hp):=by
 refine wBody (tm:=(gput (some p1) (.one (.v (.int .i64 t))) (gput (some p0) (.one (.v (.int .i64 h))) .e))) rfl (wSeq (wBlk (ggo (sMv rfl rfl) (gnil (nNorm (wSeq (wBlk (ggo (sMv rfl rfl) (ggo (sCvf rfl rfl) (ggo (sMv rfl rfl) (ggo (sCvf rfl rfl) ?_)))))))))));refine ggo (sBin (c:=c) rfl rfl rfl rfl rfl hq hu) (ggo (sMv rfl rfl) (gnil (nNorm (wRet ?_))));exact⟨_,.inl rfl,gends_tmp rfl⟩
theorem ratio31 {h t:Int} {c:C} {u:U} {P:Program} {O:Oracle2} {m:Nat} {hp:List GO} (hq:cbin .quo (.flt (FloatKind.nearest .f64 h)) (.flt (FloatKind.nearest .f64 t))=some c) (hu:cU c=some u):gbody P O m false b31 [.one (.v (.int .i64 h)),.one (.v (.int .i64 t))] hp=some (.one (.v u),hp):=by
 refine wBody (tm:=(gput (some p1) (.one (.v (.int .i64 t))) (gput (some p0) (.one (.v (.int .i64 h))) .e))) rfl (wSeq (wBlk (ggo (sMv rfl rfl) (gnil (nNorm (wSeq (wBlk (ggo (sMv rfl rfl) (ggo (sCvf rfl rfl) (ggo (sMv rfl rfl) (ggo (sCvf rfl rfl) ?_)))))))))));refine ggo (sMv rfl rfl) (ggo (sMv rfl rfl) (gnil (nNorm (wSeq (wBlk (ggo (sMv rfl rfl) (ggo (sMv rfl rfl) (ggo (sBin (c:=c) rfl rfl rfl rfl rfl hq hu) (ggo (sMv rfl rfl) (gnil (nNorm ?_)))))))))));refine wRet ?_;exact⟨_,.inl rfl,gends_tmp rfl⟩
theorem none61_flt {a:Nat} {b:Bool} {P:Program} {O:Oracle2} {m:Nat} {hp:List GO} (h:cbin .neq (.flt a) (.flt a)=some (.bool b)):gbody P O m false b61 [.one (.v (.flt a))] hp=some (.one (.v (.bool b)),hp):=by
 refine wBody (tm:=(gput (some p0) (.one (.v (.flt a))) .e)) rfl (wSeq (wBlk (ggo (sMv rfl rfl) (gnil (nNorm (wSeq (wBlk (ggo (sMv rfl rfl) (ggo (sMv rfl rfl) (ggo (sBin (c:=.bool b) rfl rfl rfl rfl rfl h rfl) (ggo (sMv rfl rfl) ?_)))))))))));refine gnil (nNorm (wRet ?_));exact⟨_,.inl rfl,gends_tmp rfl⟩
theorem ord_tt {a b:Nat} {P:Program} {O:Oracle2} {m:Nat} {hp:List GO} (ha:O 61 [.one (.v ((.flt a)))] []=some (.one (.v (.bool true)),[])) (hb:O 61 [.one (.v ((.flt b)))] []=some (.one (.v (.bool true)),[])):gbody P O m false b36 [.one (.v (.flt a)),.one (.v (.flt b))] hp=some (.one (.v (.int .i64 (0))),hp):=by
 refine wBody (tm:=(gput (some p1) (.one (.v (.flt b))) (gput (some p0) (.one (.v (.flt a))) .e))) rfl (wSeq (wBlk (ggo (sMv rfl rfl) (gnil (nNorm (wSeq (wBlock (wSeq (wBlk (ggo (sMv rfl rfl) (ggo (sCall (ds:=[.one (.v (.flt a))]) (d:=.one (.v (.bool true))) rfl (args1 (rfl)) (gcall_pure (us:=[(.flt a)]) ha)) ?_)))))))))));refine ggo (sMv rfl rfl) (ggo (sMv (grun rfl) rfl) (ggo (sCall (ds:=[.one (.v (.flt b))]) (d:=.one (.v (.bool true))) (grun rfl) (args1 (rfl)) (gcall_pure (us:=[(.flt b)]) hb)) (ggo (sPick (d:=.one (.v (.bool true))) rfl rfl rfl) (ggo (sMv rfl rfl) (gnil (nNorm (wCond (t:=true) rfl (wSeq (wBlk (ggo (sMv rfl rfl) (gnil ?_)))))))))));refine nNorm (wRet (bRet (nRet ?_)));exact⟨_,.inl rfl,gends_tmp rfl⟩
theorem ord_tf {a b:Nat} {P:Program} {O:Oracle2} {m:Nat} {hp:List GO} (ha:O 61 [.one (.v ((.flt a)))] []=some (.one (.v (.bool true)),[])) (hb:O 61 [.one (.v ((.flt b)))] []=some (.one (.v (.bool false)),[])):gbody P O m false b36 [.one (.v (.flt a)),.one (.v (.flt b))] hp=some (.one (.v (.int .i64 (1))),hp):=by
 refine wBody (tm:=(gput (some p1) (.one (.v (.flt b))) (gput (some p0) (.one (.v (.flt a))) .e))) rfl (wSeq (wBlk (ggo (sMv rfl rfl) (gnil (nNorm (wSeq (wBlock (wSeq (wBlk (ggo (sMv rfl rfl) (ggo (sCall (ds:=[.one (.v (.flt a))]) (d:=.one (.v (.bool true))) rfl (args1 (rfl)) (gcall_pure (us:=[(.flt a)]) ha)) ?_)))))))))));refine ggo (sMv rfl rfl) (ggo (sMv (grun rfl) rfl) (ggo (sCall (ds:=[.one (.v (.flt b))]) (d:=.one (.v (.bool false))) (grun rfl) (args1 (rfl)) (gcall_pure (us:=[(.flt b)]) hb)) (ggo (sPick (d:=.one (.v (.bool false))) rfl rfl rfl) (ggo (sMv rfl rfl) (gnil (nNorm (wCond (t:=false) rfl (wSeq (wBlk (ggo (sMv rfl rfl) (ggo (sCall (ds:=[.one (.v (.flt a))]) (d:=.one (.v (.bool true))) rfl (args1 (rfl)) (gcall_pure (us:=[(.flt a)]) ha)) ?_)))))))))));refine ggo (sMv rfl rfl) (ggo (sSkip (gskip rfl)) (ggo (sSkip (gskip rfl)) (ggo (sSkip (gskip rfl)) (ggo (sPick (d:=.one (.v (.bool true))) rfl rfl rfl) (ggo (sMv rfl rfl) (gnil (nNorm (wCond (t:=true) rfl (wSeq (wBlk (ggo (sMv rfl rfl) ?_)))))))))));refine gnil (nNorm (wRet (bRet (nRet ?_))));exact⟨_,.inl rfl,gends_tmp rfl⟩
theorem ord_ft {a b:Nat} {P:Program} {O:Oracle2} {m:Nat} {hp:List GO} (ha:O 61 [.one (.v ((.flt a)))] []=some (.one (.v (.bool false)),[])) (hb:O 61 [.one (.v ((.flt b)))] []=some (.one (.v (.bool true)),[])) (hg:cbin .gtr (.flt a) (.flt b)=some (.bool false)):gbody P O m false b36 [.one (.v (.flt a)),.one (.v (.flt b))] hp=some (.one (.v (.int .i64 (-1))),hp):=by
 refine wBody (tm:=(gput (some p1) (.one (.v (.flt b))) (gput (some p0) (.one (.v (.flt a))) .e))) rfl (wSeq (wBlk (ggo (sMv rfl rfl) (gnil (nNorm (wSeq (wBlock (wSeq (wBlk (ggo (sMv rfl rfl) (ggo (sCall (ds:=[.one (.v (.flt a))]) (d:=.one (.v (.bool false))) rfl (args1 (rfl)) (gcall_pure (us:=[(.flt a)]) ha)) ?_)))))))))));refine ggo (sMv rfl rfl) (ggo (sSkip (gskip rfl)) (ggo (sSkip (gskip rfl)) (ggo (sPick (d:=.one (.v (.bool false))) rfl rfl rfl) (ggo (sMv rfl rfl) (gnil (nNorm (wCond (t:=false) rfl (wSeq (wBlk (ggo (sMv rfl rfl) (ggo (sCall (ds:=[.one (.v (.flt a))]) (d:=.one (.v (.bool false))) rfl (args1 (rfl)) (gcall_pure (us:=[(.flt a)]) ha)) ?_)))))))))));refine ggo (sMv rfl rfl) (ggo (sMv (grun rfl) rfl) (ggo (sMv (grun rfl) rfl) (ggo (sBin (c:=.bool false) (grun rfl) rfl rfl rfl rfl hg rfl) (ggo (sPick (d:=.one (.v (.bool false))) rfl rfl rfl) (ggo (sMv rfl rfl) (gnil (nNorm (wCond (t:=false) rfl (wSeq (wBlk (ggo (sMv rfl rfl) ?_)))))))))));refine ggo (sCall (ds:=[.one (.v (.flt b))]) (d:=.one (.v (.bool true))) rfl (args1 (rfl)) (gcall_pure (us:=[(.flt b)]) hb)) (ggo (sMv rfl rfl) (ggo (sSkip (gskip rfl)) (ggo (sSkip (gskip rfl)) (ggo (sSkip (gskip rfl)) (ggo (sPick (d:=.one (.v (.bool true))) rfl rfl rfl) (ggo (sMv rfl rfl) (gnil (nNorm (wCond (t:=true) rfl (wSeq (wBlk ?_)))))))))));refine ggo (sMv rfl rfl) (gnil (nNorm (wRet (bRet (nRet ?_)))));exact⟨_,.inl rfl,gends_tmp rfl⟩
theorem ord_gt {a b:Nat} {P:Program} {O:Oracle2} {m:Nat} {hp:List GO} (ha:O 61 [.one (.v ((.flt a)))] []=some (.one (.v (.bool false)),[])) (hb:O 61 [.one (.v ((.flt b)))] []=some (.one (.v (.bool false)),[])) (hg:cbin .gtr (.flt a) (.flt b)=some (.bool true)):gbody P O m false b36 [.one (.v (.flt a)),.one (.v (.flt b))] hp=some (.one (.v (.int .i64 (1))),hp):=by
 refine wBody (tm:=(gput (some p1) (.one (.v (.flt b))) (gput (some p0) (.one (.v (.flt a))) .e))) rfl (wSeq (wBlk (ggo (sMv rfl rfl) (gnil (nNorm (wSeq (wBlock (wSeq (wBlk (ggo (sMv rfl rfl) (ggo (sCall (ds:=[.one (.v (.flt a))]) (d:=.one (.v (.bool false))) rfl (args1 (rfl)) (gcall_pure (us:=[(.flt a)]) ha)) ?_)))))))))));refine ggo (sMv rfl rfl) (ggo (sSkip (gskip rfl)) (ggo (sSkip (gskip rfl)) (ggo (sPick (d:=.one (.v (.bool false))) rfl rfl rfl) (ggo (sMv rfl rfl) (gnil (nNorm (wCond (t:=false) rfl (wSeq (wBlk (ggo (sMv rfl rfl) (ggo (sCall (ds:=[.one (.v (.flt a))]) (d:=.one (.v (.bool false))) rfl (args1 (rfl)) (gcall_pure (us:=[(.flt a)]) ha)) ?_)))))))))));refine ggo (sMv rfl rfl) (ggo (sMv (grun rfl) rfl) (ggo (sMv (grun rfl) rfl) (ggo (sBin (c:=.bool true) (grun rfl) rfl rfl rfl rfl hg rfl) (ggo (sPick (d:=.one (.v (.bool true))) rfl rfl rfl) (ggo (sMv rfl rfl) (gnil (nNorm (wCond (t:=true) rfl (wSeq (wBlk (ggo (sMv rfl rfl) ?_)))))))))));refine gnil (nNorm (wRet (bRet (nRet ?_))));exact⟨_,.inl rfl,gends_tmp rfl⟩
theorem ord_lt {a b:Nat} {P:Program} {O:Oracle2} {m:Nat} {hp:List GO} (ha:O 61 [.one (.v ((.flt a)))] []=some (.one (.v (.bool false)),[])) (hb:O 61 [.one (.v ((.flt b)))] []=some (.one (.v (.bool false)),[])) (hg:cbin .gtr (.flt a) (.flt b)=some (.bool false)) (hl:cbin .lss (.flt a) (.flt b)=some (.bool true)):gbody P O m false b36 [.one (.v (.flt a)),.one (.v (.flt b))] hp=some (.one (.v (.int .i64 (-1))),hp):=by
 refine wBody (tm:=(gput (some p1) (.one (.v (.flt b))) (gput (some p0) (.one (.v (.flt a))) .e))) rfl (wSeq (wBlk (ggo (sMv rfl rfl) (gnil (nNorm (wSeq (wBlock (wSeq (wBlk (ggo (sMv rfl rfl) (ggo (sCall (ds:=[.one (.v (.flt a))]) (d:=.one (.v (.bool false))) rfl (args1 (rfl)) (gcall_pure (us:=[(.flt a)]) ha)) ?_)))))))))));refine ggo (sMv rfl rfl) (ggo (sSkip (gskip rfl)) (ggo (sSkip (gskip rfl)) (ggo (sPick (d:=.one (.v (.bool false))) rfl rfl rfl) (ggo (sMv rfl rfl) (gnil (nNorm (wCond (t:=false) rfl (wSeq (wBlk (ggo (sMv rfl rfl) (ggo (sCall (ds:=[.one (.v (.flt a))]) (d:=.one (.v (.bool false))) rfl (args1 (rfl)) (gcall_pure (us:=[(.flt a)]) ha)) ?_)))))))))));refine ggo (sMv rfl rfl) (ggo (sMv (grun rfl) rfl) (ggo (sMv (grun rfl) rfl) (ggo (sBin (c:=.bool false) (grun rfl) rfl rfl rfl rfl hg rfl) (ggo (sPick (d:=.one (.v (.bool false))) rfl rfl rfl) (ggo (sMv rfl rfl) (gnil (nNorm (wCond (t:=false) rfl (wSeq (wBlk (ggo (sMv rfl rfl) ?_)))))))))));refine ggo (sCall (ds:=[.one (.v (.flt b))]) (d:=.one (.v (.bool false))) rfl (args1 (rfl)) (gcall_pure (us:=[(.flt b)]) hb)) (ggo (sMv rfl rfl) (ggo (sMv (grun rfl) rfl) (ggo (sMv (grun rfl) rfl) (ggo (sBin (c:=.bool true) (grun rfl) rfl rfl rfl rfl hl rfl) (ggo (sPick (d:=.one (.v (.bool true))) rfl rfl rfl) (ggo (sMv rfl rfl) (gnil (nNorm (wCond (t:=true) rfl (wSeq (wBlk ?_)))))))))));refine ggo (sMv rfl rfl) (gnil (nNorm (wRet (bRet (nRet ?_)))));exact⟨_,.inl rfl,gends_tmp rfl⟩
theorem ord_s11 {a b:Nat} {P:Program} {O:Oracle2} {m:Nat} {hp:List GO} (ha:O 61 [.one (.v ((.flt a)))] []=some (.one (.v (.bool false)),[])) (hb:O 61 [.one (.v ((.flt b)))] []=some (.one (.v (.bool false)),[])) (hg:cbin .gtr (.flt a) (.flt b)=some (.bool false)) (hl:cbin .lss (.flt a) (.flt b)=some (.bool false)) (hx:O 62 [.one (.v ((.flt a)))] []=some (.one (.v (.bool true)),[])) (hy:O 62 [.one (.v ((.flt b)))] []=some (.one (.v (.bool true)),[])):gbody P O m false b36 [.one (.v (.flt a)),.one (.v (.flt b))] hp=some (.one (.v (.int .i64 (0))),hp):=by
 refine wBody (tm:=(gput (some p1) (.one (.v (.flt b))) (gput (some p0) (.one (.v (.flt a))) .e))) rfl (wSeq (wBlk (ggo (sMv rfl rfl) (gnil (nNorm (wSeq (wBlock (wSeq (wBlk (ggo (sMv rfl rfl) (ggo (sCall (ds:=[.one (.v (.flt a))]) (d:=.one (.v (.bool false))) rfl (args1 (rfl)) (gcall_pure (us:=[(.flt a)]) ha)) ?_)))))))))));refine ggo (sMv rfl rfl) (ggo (sSkip (gskip rfl)) (ggo (sSkip (gskip rfl)) (ggo (sPick (d:=.one (.v (.bool false))) rfl rfl rfl) (ggo (sMv rfl rfl) (gnil (nNorm (wCond (t:=false) rfl (wSeq (wBlk (ggo (sMv rfl rfl) (ggo (sCall (ds:=[.one (.v (.flt a))]) (d:=.one (.v (.bool false))) rfl (args1 (rfl)) (gcall_pure (us:=[(.flt a)]) ha)) ?_)))))))))));refine ggo (sMv rfl rfl) (ggo (sMv (grun rfl) rfl) (ggo (sMv (grun rfl) rfl) (ggo (sBin (c:=.bool false) (grun rfl) rfl rfl rfl rfl hg rfl) (ggo (sPick (d:=.one (.v (.bool false))) rfl rfl rfl) (ggo (sMv rfl rfl) (gnil (nNorm (wCond (t:=false) rfl (wSeq (wBlk (ggo (sMv rfl rfl) ?_)))))))))));refine ggo (sCall (ds:=[.one (.v (.flt b))]) (d:=.one (.v (.bool false))) rfl (args1 (rfl)) (gcall_pure (us:=[(.flt b)]) hb)) (ggo (sMv rfl rfl) (ggo (sMv (grun rfl) rfl) (ggo (sMv (grun rfl) rfl) (ggo (sBin (c:=.bool false) (grun rfl) rfl rfl rfl rfl hl rfl) (ggo (sPick (d:=.one (.v (.bool false))) rfl rfl rfl) (ggo (sMv rfl rfl) (gnil (nNorm (wCond (t:=false) rfl (wSkip (bNorm ?_)))))))))));refine nNorm (wSeq (wSeq (wBlk (ggo (sMv rfl rfl) (ggo (sCall (ds:=[.one (.v (.flt a))]) (d:=.one (.v (.bool true))) rfl (args1 (rfl)) (gcall_pure (us:=[(.flt a)]) hx)) (ggo (sMv rfl rfl) (ggo (sCall (ds:=[.one (.v (.flt b))]) (d:=.one (.v (.bool true))) rfl (args1 (rfl)) (gcall_pure (us:=[(.flt b)]) hy)) (ggo (sMv rfl rfl) (ggo (sMv rfl rfl) (gnil (nNorm ?_)))))))))));refine wBlock (wSeq (wBlk (ggo (sMv rfl rfl) (ggo (sMv rfl rfl) (ggo (sMv (grun rfl) rfl) (ggo (sNot (grun rfl) rfl) (ggo (sPick (d:=.one (.v (.bool false))) rfl rfl rfl) (ggo (sMv rfl rfl) (gnil (nNorm (wCond (t:=false) rfl ?_)))))))))));refine wSeq (wBlk (ggo (sMv rfl rfl) (ggo (sNot rfl rfl) (ggo (sMv rfl rfl) (ggo (sSkip (gskip rfl)) (ggo (sPick (d:=.one (.v (.bool false))) rfl rfl rfl) (ggo (sMv rfl rfl) (gnil (nNorm (wCond (t:=false) rfl (wSkip ?_)))))))))));refine bNorm (nNorm (wSeq (wBlk (ggo (sMv rfl rfl) (gnil (nNorm (wRet ?_)))))));exact⟨_,.inl rfl,gends_tmp rfl⟩
theorem ord_s10 {a b:Nat} {P:Program} {O:Oracle2} {m:Nat} {hp:List GO} (ha:O 61 [.one (.v ((.flt a)))] []=some (.one (.v (.bool false)),[])) (hb:O 61 [.one (.v ((.flt b)))] []=some (.one (.v (.bool false)),[])) (hg:cbin .gtr (.flt a) (.flt b)=some (.bool false)) (hl:cbin .lss (.flt a) (.flt b)=some (.bool false)) (hx:O 62 [.one (.v ((.flt a)))] []=some (.one (.v (.bool true)),[])) (hy:O 62 [.one (.v ((.flt b)))] []=some (.one (.v (.bool false)),[])):gbody P O m false b36 [.one (.v (.flt a)),.one (.v (.flt b))] hp=some (.one (.v (.int .i64 (-1))),hp):=by
 refine wBody (tm:=(gput (some p1) (.one (.v (.flt b))) (gput (some p0) (.one (.v (.flt a))) .e))) rfl (wSeq (wBlk (ggo (sMv rfl rfl) (gnil (nNorm (wSeq (wBlock (wSeq (wBlk (ggo (sMv rfl rfl) (ggo (sCall (ds:=[.one (.v (.flt a))]) (d:=.one (.v (.bool false))) rfl (args1 (rfl)) (gcall_pure (us:=[(.flt a)]) ha)) ?_)))))))))));refine ggo (sMv rfl rfl) (ggo (sSkip (gskip rfl)) (ggo (sSkip (gskip rfl)) (ggo (sPick (d:=.one (.v (.bool false))) rfl rfl rfl) (ggo (sMv rfl rfl) (gnil (nNorm (wCond (t:=false) rfl (wSeq (wBlk (ggo (sMv rfl rfl) (ggo (sCall (ds:=[.one (.v (.flt a))]) (d:=.one (.v (.bool false))) rfl (args1 (rfl)) (gcall_pure (us:=[(.flt a)]) ha)) ?_)))))))))));refine ggo (sMv rfl rfl) (ggo (sMv (grun rfl) rfl) (ggo (sMv (grun rfl) rfl) (ggo (sBin (c:=.bool false) (grun rfl) rfl rfl rfl rfl hg rfl) (ggo (sPick (d:=.one (.v (.bool false))) rfl rfl rfl) (ggo (sMv rfl rfl) (gnil (nNorm (wCond (t:=false) rfl (wSeq (wBlk (ggo (sMv rfl rfl) ?_)))))))))));refine ggo (sCall (ds:=[.one (.v (.flt b))]) (d:=.one (.v (.bool false))) rfl (args1 (rfl)) (gcall_pure (us:=[(.flt b)]) hb)) (ggo (sMv rfl rfl) (ggo (sMv (grun rfl) rfl) (ggo (sMv (grun rfl) rfl) (ggo (sBin (c:=.bool false) (grun rfl) rfl rfl rfl rfl hl rfl) (ggo (sPick (d:=.one (.v (.bool false))) rfl rfl rfl) (ggo (sMv rfl rfl) (gnil (nNorm (wCond (t:=false) rfl (wSkip (bNorm ?_)))))))))));refine nNorm (wSeq (wSeq (wBlk (ggo (sMv rfl rfl) (ggo (sCall (ds:=[.one (.v (.flt a))]) (d:=.one (.v (.bool true))) rfl (args1 (rfl)) (gcall_pure (us:=[(.flt a)]) hx)) (ggo (sMv rfl rfl) (ggo (sCall (ds:=[.one (.v (.flt b))]) (d:=.one (.v (.bool false))) rfl (args1 (rfl)) (gcall_pure (us:=[(.flt b)]) hy)) (ggo (sMv rfl rfl) (ggo (sMv rfl rfl) (gnil (nNorm ?_)))))))))));refine wBlock (wSeq (wBlk (ggo (sMv rfl rfl) (ggo (sMv rfl rfl) (ggo (sMv (grun rfl) rfl) (ggo (sNot (grun rfl) rfl) (ggo (sPick (d:=.one (.v (.bool true))) rfl rfl rfl) (ggo (sMv rfl rfl) (gnil (nNorm (wCond (t:=true) rfl ?_)))))))))));refine wSeq (wBlk (ggo (sMv rfl rfl) (gnil (nNorm (wRet (bRet (nRet ?_)))))));exact⟨_,.inl rfl,gends_tmp rfl⟩
theorem ord_s01 {a b:Nat} {P:Program} {O:Oracle2} {m:Nat} {hp:List GO} (ha:O 61 [.one (.v ((.flt a)))] []=some (.one (.v (.bool false)),[])) (hb:O 61 [.one (.v ((.flt b)))] []=some (.one (.v (.bool false)),[])) (hg:cbin .gtr (.flt a) (.flt b)=some (.bool false)) (hl:cbin .lss (.flt a) (.flt b)=some (.bool false)) (hx:O 62 [.one (.v ((.flt a)))] []=some (.one (.v (.bool false)),[])) (hy:O 62 [.one (.v ((.flt b)))] []=some (.one (.v (.bool true)),[])):gbody P O m false b36 [.one (.v (.flt a)),.one (.v (.flt b))] hp=some (.one (.v (.int .i64 (1))),hp):=by
 refine wBody (tm:=(gput (some p1) (.one (.v (.flt b))) (gput (some p0) (.one (.v (.flt a))) .e))) rfl (wSeq (wBlk (ggo (sMv rfl rfl) (gnil (nNorm (wSeq (wBlock (wSeq (wBlk (ggo (sMv rfl rfl) (ggo (sCall (ds:=[.one (.v (.flt a))]) (d:=.one (.v (.bool false))) rfl (args1 (rfl)) (gcall_pure (us:=[(.flt a)]) ha)) ?_)))))))))));refine ggo (sMv rfl rfl) (ggo (sSkip (gskip rfl)) (ggo (sSkip (gskip rfl)) (ggo (sPick (d:=.one (.v (.bool false))) rfl rfl rfl) (ggo (sMv rfl rfl) (gnil (nNorm (wCond (t:=false) rfl (wSeq (wBlk (ggo (sMv rfl rfl) (ggo (sCall (ds:=[.one (.v (.flt a))]) (d:=.one (.v (.bool false))) rfl (args1 (rfl)) (gcall_pure (us:=[(.flt a)]) ha)) ?_)))))))))));refine ggo (sMv rfl rfl) (ggo (sMv (grun rfl) rfl) (ggo (sMv (grun rfl) rfl) (ggo (sBin (c:=.bool false) (grun rfl) rfl rfl rfl rfl hg rfl) (ggo (sPick (d:=.one (.v (.bool false))) rfl rfl rfl) (ggo (sMv rfl rfl) (gnil (nNorm (wCond (t:=false) rfl (wSeq (wBlk (ggo (sMv rfl rfl) ?_)))))))))));refine ggo (sCall (ds:=[.one (.v (.flt b))]) (d:=.one (.v (.bool false))) rfl (args1 (rfl)) (gcall_pure (us:=[(.flt b)]) hb)) (ggo (sMv rfl rfl) (ggo (sMv (grun rfl) rfl) (ggo (sMv (grun rfl) rfl) (ggo (sBin (c:=.bool false) (grun rfl) rfl rfl rfl rfl hl rfl) (ggo (sPick (d:=.one (.v (.bool false))) rfl rfl rfl) (ggo (sMv rfl rfl) (gnil (nNorm (wCond (t:=false) rfl (wSkip (bNorm ?_)))))))))));refine nNorm (wSeq (wSeq (wBlk (ggo (sMv rfl rfl) (ggo (sCall (ds:=[.one (.v (.flt a))]) (d:=.one (.v (.bool false))) rfl (args1 (rfl)) (gcall_pure (us:=[(.flt a)]) hx)) (ggo (sMv rfl rfl) (ggo (sCall (ds:=[.one (.v (.flt b))]) (d:=.one (.v (.bool true))) rfl (args1 (rfl)) (gcall_pure (us:=[(.flt b)]) hy)) (ggo (sMv rfl rfl) (ggo (sMv rfl rfl) (gnil (nNorm ?_)))))))))));refine wBlock (wSeq (wBlk (ggo (sMv rfl rfl) (ggo (sMv rfl rfl) (ggo (sSkip (gskip rfl)) (ggo (sSkip (gskip rfl)) (ggo (sPick (d:=.one (.v (.bool false))) rfl rfl rfl) (ggo (sMv rfl rfl) (gnil (nNorm (wCond (t:=false) rfl ?_)))))))))));refine wSeq (wBlk (ggo (sMv rfl rfl) (ggo (sNot rfl rfl) (ggo (sMv rfl rfl) (ggo (sMv (grun rfl) rfl) (ggo (sPick (d:=.one (.v (.bool true))) rfl rfl rfl) (ggo (sMv rfl rfl) (gnil (nNorm (wCond (t:=true) rfl (wSeq ?_)))))))))));refine wBlk (ggo (sMv rfl rfl) (gnil (nNorm (wRet (bRet (nRet ?_))))));exact⟨_,.inl rfl,gends_tmp rfl⟩
theorem ord_s00 {a b:Nat} {P:Program} {O:Oracle2} {m:Nat} {hp:List GO} (ha:O 61 [.one (.v ((.flt a)))] []=some (.one (.v (.bool false)),[])) (hb:O 61 [.one (.v ((.flt b)))] []=some (.one (.v (.bool false)),[])) (hg:cbin .gtr (.flt a) (.flt b)=some (.bool false)) (hl:cbin .lss (.flt a) (.flt b)=some (.bool false)) (hx:O 62 [.one (.v ((.flt a)))] []=some (.one (.v (.bool false)),[])) (hy:O 62 [.one (.v ((.flt b)))] []=some (.one (.v (.bool false)),[])):gbody P O m false b36 [.one (.v (.flt a)),.one (.v (.flt b))] hp=some (.one (.v (.int .i64 (0))),hp):=by
 refine wBody (tm:=(gput (some p1) (.one (.v (.flt b))) (gput (some p0) (.one (.v (.flt a))) .e))) rfl (wSeq (wBlk (ggo (sMv rfl rfl) (gnil (nNorm (wSeq (wBlock (wSeq (wBlk (ggo (sMv rfl rfl) (ggo (sCall (ds:=[.one (.v (.flt a))]) (d:=.one (.v (.bool false))) rfl (args1 (rfl)) (gcall_pure (us:=[(.flt a)]) ha)) ?_)))))))))));refine ggo (sMv rfl rfl) (ggo (sSkip (gskip rfl)) (ggo (sSkip (gskip rfl)) (ggo (sPick (d:=.one (.v (.bool false))) rfl rfl rfl) (ggo (sMv rfl rfl) (gnil (nNorm (wCond (t:=false) rfl (wSeq (wBlk (ggo (sMv rfl rfl) (ggo (sCall (ds:=[.one (.v (.flt a))]) (d:=.one (.v (.bool false))) rfl (args1 (rfl)) (gcall_pure (us:=[(.flt a)]) ha)) ?_)))))))))));refine ggo (sMv rfl rfl) (ggo (sMv (grun rfl) rfl) (ggo (sMv (grun rfl) rfl) (ggo (sBin (c:=.bool false) (grun rfl) rfl rfl rfl rfl hg rfl) (ggo (sPick (d:=.one (.v (.bool false))) rfl rfl rfl) (ggo (sMv rfl rfl) (gnil (nNorm (wCond (t:=false) rfl (wSeq (wBlk (ggo (sMv rfl rfl) ?_)))))))))));refine ggo (sCall (ds:=[.one (.v (.flt b))]) (d:=.one (.v (.bool false))) rfl (args1 (rfl)) (gcall_pure (us:=[(.flt b)]) hb)) (ggo (sMv rfl rfl) (ggo (sMv (grun rfl) rfl) (ggo (sMv (grun rfl) rfl) (ggo (sBin (c:=.bool false) (grun rfl) rfl rfl rfl rfl hl rfl) (ggo (sPick (d:=.one (.v (.bool false))) rfl rfl rfl) (ggo (sMv rfl rfl) (gnil (nNorm (wCond (t:=false) rfl (wSkip (bNorm ?_)))))))))));refine nNorm (wSeq (wSeq (wBlk (ggo (sMv rfl rfl) (ggo (sCall (ds:=[.one (.v (.flt a))]) (d:=.one (.v (.bool false))) rfl (args1 (rfl)) (gcall_pure (us:=[(.flt a)]) hx)) (ggo (sMv rfl rfl) (ggo (sCall (ds:=[.one (.v (.flt b))]) (d:=.one (.v (.bool false))) rfl (args1 (rfl)) (gcall_pure (us:=[(.flt b)]) hy)) (ggo (sMv rfl rfl) (ggo (sMv rfl rfl) (gnil (nNorm ?_)))))))))));refine wBlock (wSeq (wBlk (ggo (sMv rfl rfl) (ggo (sMv rfl rfl) (ggo (sSkip (gskip rfl)) (ggo (sSkip (gskip rfl)) (ggo (sPick (d:=.one (.v (.bool false))) rfl rfl rfl) (ggo (sMv rfl rfl) (gnil (nNorm (wCond (t:=false) rfl ?_)))))))))));refine wSeq (wBlk (ggo (sMv rfl rfl) (ggo (sNot rfl rfl) (ggo (sMv rfl rfl) (ggo (sMv (grun rfl) rfl) (ggo (sPick (d:=.one (.v (.bool false))) rfl rfl rfl) (ggo (sMv rfl rfl) (gnil (nNorm (wCond (t:=false) rfl (wSkip ?_)))))))))));refine bNorm (nNorm (wSeq (wBlk (ggo (sMv rfl rfl) (gnil (nNorm (wRet ?_)))))));exact⟨_,.inl rfl,gends_tmp rfl⟩
theorem sign62 {a:Nat} {b:Bool} {P:Program} {O:Oracle2} {m:Nat} {hp:List GO} (h9:O 89 [.one (.v (.flt a))] []=some (.one (.v (.int .u64 (.ofNat a))),[])) (hc:cbin .lss (.int .i64 (wrapC .i64 (.ofNat a))) (.int .i64 (0))=some (.bool b)):gbody P O m false b62 [.one (.v (.flt a))] hp=some (.one (.v (.bool b)),hp):=by
 refine wBody (tm:=(gput (some p0) (.one (.v (.flt a))) .e)) rfl (wSeq (wBlk (ggo (sMv rfl rfl) (gnil (nNorm (wSeq (wBlk (ggo (sMv rfl rfl) (ggo (sCall (ds:=[.one (.v (.flt a))]) (d:=.one (.v (.int .u64 (.ofNat a)))) rfl (args1 (rfl)) (gcall_pure (us:=[.flt a]) h9)) (ggo (sCvi rfl rfl) (ggo (sBin (c:=.bool b) rfl rfl rfl rfl rfl hc rfl) ?_)))))))))));refine ggo (sMv rfl rfl) (gnil (nNorm (wRet ?_)));exact⟨_,.inl rfl,gends_tmp rfl⟩
theorem key52_0 {a z:Nat} {P:Program} {O:Oracle2} {m:Nat} {hp:List GO} (h9:O 89 [.one (.v (.flt a))] []=some (.one (.v (.int .u64 (.ofNat a))),[])) (hz:cbin .and (.int .u64 (.ofNat a)) (.int .u64 (9223372036854775807))=some (.int .u64 (.ofNat z))) (h1:cbin .gtr (.int .u64 (.ofNat z)) (.int .u64 (9218868437227405312))=some (.bool true)):gbody P O m false b52 [.one (.v (.flt a))] hp=some (.one (.v (.int .u64 (18446744073709551615))),hp):=by
 refine wBody (tm:=(gput (some p0) (.one (.v (.flt a))) .e)) rfl (wSeq (wBlk (ggo (sMv rfl rfl) (gnil (nNorm (wSeq (wBlk (ggo (sMv rfl rfl) (ggo (sCall (ds:=[.one (.v (.flt a))]) (d:=.one (.v (.int .u64 (.ofNat a)))) rfl (args1 (rfl)) (gcall_pure (us:=[.flt a]) h9)) (ggo (sMv rfl rfl) (gnil ?_)))))))))));refine nNorm (wSeq (wSeq (wBlk (ggo (sMv rfl rfl) (ggo (sBin (c:=.int .u64 (.ofNat z)) rfl rfl rfl rfl rfl hz rfl) (ggo (sBin (c:=.bool true) rfl rfl rfl rfl rfl h1 rfl) (gnil (nNorm (wCond (t:=true) rfl (wSeq (wBlk ?_)))))))))));refine ggo (sMv rfl rfl) (gnil (nNorm (wRet (nRet ?_))));exact⟨_,.inl rfl,gends_tmp rfl⟩
theorem key52_1 {a z:Nat} {P:Program} {O:Oracle2} {m:Nat} {hp:List GO} (h9:O 89 [.one (.v (.flt a))] []=some (.one (.v (.int .u64 (.ofNat a))),[])) (hz:cbin .and (.int .u64 (.ofNat a)) (.int .u64 (9223372036854775807))=some (.int .u64 (.ofNat z))) (h1:cbin .gtr (.int .u64 (.ofNat z)) (.int .u64 (9218868437227405312))=some (.bool false)) (h2:cbin .geq (.int .u64 (.ofNat a)) (.int .u64 (9223372036854775808))=some (.bool true)):gbody P O m false b52 [.one (.v (.flt a))] hp=some (.one (.v (.int .u64 (IntKind.u64.wrap (BitVec.ofInt IntKind.u64.bits (if IntKind.u64.signed then -1 else IntKind.u64.max)^^^BitVec.ofInt IntKind.u64.bits (.ofNat a)).toNat))),hp):=by
 refine wBody (tm:=(gput (some p0) (.one (.v (.flt a))) .e)) rfl (wSeq (wBlk (ggo (sMv rfl rfl) (gnil (nNorm (wSeq (wBlk (ggo (sMv rfl rfl) (ggo (sCall (ds:=[.one (.v (.flt a))]) (d:=.one (.v (.int .u64 (.ofNat a)))) rfl (args1 (rfl)) (gcall_pure (us:=[.flt a]) h9)) (ggo (sMv rfl rfl) (gnil ?_)))))))))));refine nNorm (wSeq (wSeq (wBlk (ggo (sMv rfl rfl) (ggo (sBin (c:=.int .u64 (.ofNat z)) rfl rfl rfl rfl rfl hz rfl) (ggo (sBin (c:=.bool false) rfl rfl rfl rfl rfl h1 rfl) (gnil (nNorm (wCond (t:=false) rfl (wSkip (nNorm ?_)))))))))));refine wSeq (wSeq (wBlk (ggo (sMv rfl rfl) (ggo (sBin (c:=.bool true) rfl rfl rfl rfl rfl h2 rfl) (gnil (nNorm (wCond (t:=true) rfl (wSeq (wBlk (ggo (sMv rfl rfl) (ggo (sNeg rfl rfl) ?_)))))))))));refine ggo (sMv rfl rfl) (gnil (nNorm (wRet (nRet ?_))));exact⟨_,.inl rfl,gends_tmp rfl⟩
theorem key52_2 {a z:Nat} {P:Program} {O:Oracle2} {m:Nat} {hp:List GO} (h9:O 89 [.one (.v (.flt a))] []=some (.one (.v (.int .u64 (.ofNat a))),[])) (hz:cbin .and (.int .u64 (.ofNat a)) (.int .u64 (9223372036854775807))=some (.int .u64 (.ofNat z))) (h1:cbin .gtr (.int .u64 (.ofNat z)) (.int .u64 (9218868437227405312))=some (.bool false)) (h2:cbin .geq (.int .u64 (.ofNat a)) (.int .u64 (9223372036854775808))=some (.bool false)):gbody P O m false b52 [.one (.v (.flt a))] hp=some (.one (.v (.int .u64 (wrapC .u64 (Int.add (.ofNat a) 9223372036854775808)))),hp):=by
 refine wBody (tm:=(gput (some p0) (.one (.v (.flt a))) .e)) rfl (wSeq (wBlk (ggo (sMv rfl rfl) (gnil (nNorm (wSeq (wBlk (ggo (sMv rfl rfl) (ggo (sCall (ds:=[.one (.v (.flt a))]) (d:=.one (.v (.int .u64 (.ofNat a)))) rfl (args1 (rfl)) (gcall_pure (us:=[.flt a]) h9)) (ggo (sMv rfl rfl) (gnil ?_)))))))))));refine nNorm (wSeq (wSeq (wBlk (ggo (sMv rfl rfl) (ggo (sBin (c:=.int .u64 (.ofNat z)) rfl rfl rfl rfl rfl hz rfl) (ggo (sBin (c:=.bool false) rfl rfl rfl rfl rfl h1 rfl) (gnil (nNorm (wCond (t:=false) rfl (wSkip (nNorm ?_)))))))))));refine wSeq (wSeq (wBlk (ggo (sMv rfl rfl) (ggo (sBin (c:=.bool false) rfl rfl rfl rfl rfl h2 rfl) (gnil (nNorm (wCond (t:=false) rfl (wSkip (nNorm (wSeq (wBlk ?_)))))))))));refine ggo (sMv rfl rfl) (ggo (sBin (c:=.int .u64 (wrapC .u64 (Int.add (.ofNat a) 9223372036854775808))) rfl rfl rfl rfl rfl rfl rfl) (ggo (sMv rfl rfl) (gnil (nNorm (wRet ?_)))));exact⟨_,.inl rfl,gends_tmp rfl⟩
end Go.Proofs.YtiahijhpjloijaaGreat.V

namespace Go.Proofs.YtiahijhpjloijaaGreat.V
open Go
def L33:K:=match b33.k with| .seq _ (.seq _ (.seq (.seq _ (.block _ (.loop a))) _))=>a|_=>.skip
def L34:K:=match b34.k with| .seq _ (.seq _ (.seq (.seq _ (.block _ (.loop a))) _))=>a|_=>.skip
def L58:K:=match b58.k with| .seq _ (.seq _ (.seq _ (.seq (.seq _ (.block _ (.loop a))) _)))=>a|_=>.skip
theorem eq0T:cbin .eql (.int .i64 (.ofNat 0)) (.int .i64 (0))=some (.bool true):=rfl
theorem eq0F {i:Nat} (h:i≠0):cbin .eql (.int .i64 (.ofNat i)) (.int .i64 (0))=some (.bool false):=by
 cases i with
 |zero=>exact absurd rfl h
 |succ i=>rfl
theorem loop33 {N:Nat} {l:List U} {X V K KV:Nat→Nat} {c:Nat→Bool} {P:Program} {O:Oracle2} {n:Nat} {hp:List GO} (hl:∀i,i<N→l[i]?=some (.flt (X i))) (hK:∀i,i<N→O 52 [.one (.v (.flt (X i)))] []=some (.one (.v (.int .u64 (.ofNat (K i)))),[])) (hV:∀i,0<i→i<N→O 52 [.one (.v (.flt (V i)))] []=some (.one (.v (.int .u64 (.ofNat (KV i)))),[]))
 (hc:∀i,0<i→i<N→cbin .lss (.int .u64 (.ofNat (K i))) (.int .u64 (.ofNat (KV i)))=some (.bool (c i))) (h1:0<N→V 1=X 0) (hs:∀i,0<i→i<N→V (i+1)=bif c i then X i else V i) (hN:N<4611686018427387904) (hn:N<n) {tm:Tr GD} (k0:Tr.get p0 tm=some (.one (.v (.fz 1 N l)))) (k3:Tr.get p3 tm=some (.one (.v (.flt (V 0))))) (k4:Tr.get p4 tm=some (.one (.v (.int .i64 (.ofNat 0))))):
 ∃t,gev P O n (.loop L33) ⟨tm,hp⟩=.exit 0 t∧t.hp=hp∧Tr.get p0 t.tm=some (.one (.v (.fz 1 N l)))∧Tr.get p3 t.tm=some (.one (.v (.flt (V N))))∧Tr.get p4 t.tm=some (.one (.v (.int .i64 (.ofNat N)))):=by
 refine iter_up (f:=gev P O n L33) (I:=fun i g=>g.hp=hp∧Tr.get p0 g.tm=some (.one (.v (.fz 1 N l)))∧Tr.get p3 g.tm=some (.one (.v (.flt (V i))))∧Tr.get p4 g.tm=some (.one (.v (.int .i64 (.ofNat i))))) (N:=N) (id:=0) (Q:=fun t=>t.hp=hp∧Tr.get p0 t.tm=some (.one (.v (.fz 1 N l)))∧Tr.get p3 t.tm=some (.one (.v (.flt (V N))))∧Tr.get p4 t.tm=some (.one (.v (.int .i64 (.ofNat N))))) ?_ ?_ N 0 ⟨tm,hp⟩ n (by omega) hn ⟨rfl,k0,k3,k4⟩
 ·rintro i ⟨tm,hp1⟩ hi ⟨rfl,h0,h3,h4⟩
  show Wp P O n L33 ⟨tm,hp1⟩ (fun o=>∃g',o=.norm g'∧g'.hp=hp1∧Tr.get p0 g'.tm=some (.one (.v (.fz 1 N l)))∧Tr.get p3 g'.tm=some (.one (.v (.flt (V (i+1)))))∧Tr.get p4 g'.tm=some (.one (.v (.int .i64 (.ofNat (i+1))))));rcases Nat.eq_zero_or_pos i with hz|hp0
  ·have hv:=h1 (by omega)
   refine wSeq (wSeq (wBlk (ggo (sMv rfl h4) (ggo (sMv rfl (v1 rfl h0)) (ggo (sLenF rfl vhit) (ggo (sBin (c:=.bool true) rfl (v2 rfl vhit) vhit rfl rfl (ltT hi) rfl) (gnil (nNorm (wCond (t:=true) vhit (wSkip (nNorm ?_)))))))))));refine wSeq (wBlock (wSeq (wBlk (ggo (sMv rfl (v4 rfl h4)) (ggo (sBin (c:=.bool true) rfl vhit rfl rfl rfl (by rw[hz];exact eq0T) rfl) (ggo (sMv rfl vhit) (ggo (sSkip (gskip (gq vhit))) (ggo (sSkip (gskip (gq (v1 rfl vhit)))) (ggo (sSkip (gskip (gq (v2 rfl vhit)))) (ggo (sSkip (gskip (gq (v2 rfl (v1 rfl vhit))))) (ggo (sSkip (gskip (gq (v4 rfl vhit)))) ?_)))))))))));refine ggo (sSkip (gskip (gq (v4 rfl (v1 rfl vhit))))) (ggo (sSkip (gskip (gq (v4 rfl (v2 rfl vhit))))) (ggo (sSkip (gskip (gq (v4 rfl (v2 rfl (v1 rfl vhit)))))) (ggo (sPick (d:=.one (.v (.bool true))) rfl (v8 rfl vhit) rfl) (gnil (nNorm (wCond (t:=true) vhit (wBlk (ggo (sMv rfl (v8 rfl (v8 rfl h0))) (ggo (sMv rfl (v8 rfl (v8 rfl (v1 rfl h4)))) (ggo (sIasF (j:=i) rfl (v1 rfl vhit) vhit hi) (ggo (sLdF (d:=.one (.v (.flt (X i)))) rfl vhit (ld1k (hl i hi)) (ld1d (hl i hi))) ?_)))))))))));refine ggo (sMv rfl vhit) (gnil (bNorm (nNorm (wBlk (ggo (sMv rfl (v8 rfl (v8 rfl (v4 rfl (v1 rfl h4))))) (ggo (sBin (c:=.int .i64 (.ofNat (i+1))) rfl vhit rfl rfl rfl (inc64 (by omega)) rfl) (ggo (sMv rfl vhit) (gnil ?_))))))));refine⟨_,rfl,rfl,?_,?_,?_⟩
   ·exact gQ (v8 rfl (v8 rfl (v8 rfl h0)))
   ·dsimp only;rw[hz]at*;rw[hv];show gval _ (.t p3)=_;exact(v2 rfl (v1 rfl vhit))
   ·exact gQ vhit
  ·have hg:=hc i hp0 hi
   have hv:=hs i hp0 hi
   cases hci:c i
   ·rw[hci]at hg hv
    refine wSeq (wSeq (wBlk (ggo (sMv rfl h4) (ggo (sMv rfl (v1 rfl h0)) (ggo (sLenF rfl vhit) (ggo (sBin (c:=.bool true) rfl (v2 rfl vhit) vhit rfl rfl (ltT hi) rfl) (gnil (nNorm (wCond (t:=true) vhit (wSkip (nNorm ?_)))))))))));refine wSeq (wBlock (wSeq (wBlk (ggo (sMv rfl (v4 rfl h4)) (ggo (sBin (c:=.bool false) rfl vhit rfl rfl rfl (eq0F (by omega)) rfl) (ggo (sMv rfl vhit) (ggo (sMv (grun (gq vhit)) (v4 rfl (v2 rfl (v1 rfl h0)))) (ggo (sMv (grun (gq (v1 rfl vhit))) (v8 rfl h4)) (ggo (sIasF (j:=i) (grun (gq (v2 rfl vhit))) (v1 rfl vhit) vhit hi) (ggo (sLdF (d:=.one (.v (.flt (X i)))) (grun (gq (v2 rfl (v1 rfl vhit)))) vhit (ld1k (hl i hi)) (ld1d (hl i hi))) (ggo (sCall (ds:=[.one (.v (.flt (X i)))]) (d:=.one (.v (.int .u64 (.ofNat (K i))))) (grun (gq (v4 rfl vhit))) (args1 (vhit)) (gcall_pure (us:=[.flt (X i)]) (hK i hi))) ?_)))))))))));refine ggo (sMv (grun (gq (v4 rfl (v1 rfl vhit)))) (v8 rfl (v4 rfl h3))) (ggo (sCall (ds:=[.one (.v (.flt (V i)))]) (d:=.one (.v (.int .u64 (.ofNat (KV i))))) (grun (gq (v4 rfl (v2 rfl vhit)))) (args1 (vhit)) (gcall_pure (us:=[.flt (V i)]) (hV i hp0 hi))) (ggo (sBin (c:=.bool false) (grun (gq (v4 rfl (v2 rfl (v1 rfl vhit))))) (v2 rfl vhit) vhit rfl rfl hg rfl) (ggo (sPick (d:=.one (.v (.bool false))) rfl (v8 rfl vhit) vhit) (gnil (nNorm (wCond (t:=false) vhit (wSkip (bNorm (nNorm (wBlk (ggo (sMv rfl (v8 rfl (v8 rfl h4))) ?_)))))))))));refine ggo (sBin (c:=.int .i64 (.ofNat (i+1))) rfl vhit rfl rfl rfl (inc64 (by omega)) rfl) (ggo (sMv rfl vhit) (gnil ?_));refine⟨_,rfl,rfl,?_,?_,?_⟩
    ·exact gQ (v8 rfl (v8 rfl (v2 rfl (v1 rfl h0))))
    ·dsimp only;rw[hv];show gval _ (.t p3)=_;exact(v8 rfl (v8 rfl (v2 rfl (v1 rfl h3))))
    ·exact gQ vhit
   ·rw[hci]at hg hv
    refine wSeq (wSeq (wBlk (ggo (sMv rfl h4) (ggo (sMv rfl (v1 rfl h0)) (ggo (sLenF rfl vhit) (ggo (sBin (c:=.bool true) rfl (v2 rfl vhit) vhit rfl rfl (ltT hi) rfl) (gnil (nNorm (wCond (t:=true) vhit (wSkip (nNorm ?_)))))))))));refine wSeq (wBlock (wSeq (wBlk (ggo (sMv rfl (v4 rfl h4)) (ggo (sBin (c:=.bool false) rfl vhit rfl rfl rfl (eq0F (by omega)) rfl) (ggo (sMv rfl vhit) (ggo (sMv (grun (gq vhit)) (v4 rfl (v2 rfl (v1 rfl h0)))) (ggo (sMv (grun (gq (v1 rfl vhit))) (v8 rfl h4)) (ggo (sIasF (j:=i) (grun (gq (v2 rfl vhit))) (v1 rfl vhit) vhit hi) (ggo (sLdF (d:=.one (.v (.flt (X i)))) (grun (gq (v2 rfl (v1 rfl vhit)))) vhit (ld1k (hl i hi)) (ld1d (hl i hi))) (ggo (sCall (ds:=[.one (.v (.flt (X i)))]) (d:=.one (.v (.int .u64 (.ofNat (K i))))) (grun (gq (v4 rfl vhit))) (args1 (vhit)) (gcall_pure (us:=[.flt (X i)]) (hK i hi))) ?_)))))))))));refine ggo (sMv (grun (gq (v4 rfl (v1 rfl vhit)))) (v8 rfl (v4 rfl h3))) (ggo (sCall (ds:=[.one (.v (.flt (V i)))]) (d:=.one (.v (.int .u64 (.ofNat (KV i))))) (grun (gq (v4 rfl (v2 rfl vhit)))) (args1 (vhit)) (gcall_pure (us:=[.flt (V i)]) (hV i hp0 hi))) (ggo (sBin (c:=.bool true) (grun (gq (v4 rfl (v2 rfl (v1 rfl vhit))))) (v2 rfl vhit) vhit rfl rfl hg rfl) (ggo (sPick (d:=.one (.v (.bool true))) rfl (v8 rfl vhit) vhit) (gnil (nNorm (wCond (t:=true) vhit (wBlk (ggo (sMv rfl (v8 rfl (v8 rfl h0))) (ggo (sMv rfl (v8 rfl (v8 rfl (v1 rfl h4)))) (ggo (sIasF (j:=i) rfl (v1 rfl vhit) vhit hi) (ggo (sLdF (d:=.one (.v (.flt (X i)))) rfl vhit (ld1k (hl i hi)) (ld1d (hl i hi))) ?_)))))))))));refine ggo (sMv rfl vhit) (gnil (bNorm (nNorm (wBlk (ggo (sMv rfl (v8 rfl (v8 rfl (v4 rfl (v1 rfl h4))))) (ggo (sBin (c:=.int .i64 (.ofNat (i+1))) rfl vhit rfl rfl rfl (inc64 (by omega)) rfl) (ggo (sMv rfl vhit) (gnil ?_))))))));refine⟨_,rfl,rfl,?_,?_,?_⟩
    ·exact gQ (v8 rfl (v8 rfl (v8 rfl h0)))
    ·dsimp only;rw[hv];show gval _ (.t p3)=_;exact(v2 rfl (v1 rfl vhit))
    ·exact gQ vhit
 ·rintro ⟨tm,hp1⟩ ⟨rfl,h0,h3,h4⟩
  show Wp P O n L33 ⟨tm,hp1⟩ (fun o=>∃g',o=.exit 0 g'∧g'.hp=hp1∧Tr.get p0 g'.tm=some (.one (.v (.fz 1 N l)))∧Tr.get p3 g'.tm=some (.one (.v (.flt (V N))))∧Tr.get p4 g'.tm=some (.one (.v (.int .i64 (.ofNat N)))));refine wSeq (wSeq (wBlk (ggo (sMv rfl h4) (ggo (sMv rfl (v1 rfl h0)) (ggo (sLenF rfl vhit) (ggo (sBin (c:=.bool false) rfl (v2 rfl vhit) vhit rfl rfl (ltF (Nat.le_refl _)) rfl) (gnil (nNorm (wCond (t:=false) vhit (wExit (nExit ?_)))))))))));refine⟨_,rfl,rfl,?_,?_,?_⟩
  ·exact gQ (v4 rfl h0)
  ·exact gQ (v4 rfl h3)
  ·exact gQ (v4 rfl h4)
theorem ext33 {N:Nat} {l:List U} {X V K KV:Nat→Nat} {c:Nat→Bool} {P:Program} {O:Oracle2} {m:Nat} {hp:List GO} (hl:∀i,i<N→l[i]?=some (.flt (X i))) (hK:∀i,i<N→O 52 [.one (.v (.flt (X i)))] []=some (.one (.v (.int .u64 (.ofNat (K i)))),[])) (hV:∀i,0<i→i<N→O 52 [.one (.v (.flt (V i)))] []=some (.one (.v (.int .u64 (.ofNat (KV i)))),[]))
 (hc:∀i,0<i→i<N→cbin .lss (.int .u64 (.ofNat (K i))) (.int .u64 (.ofNat (KV i)))=some (.bool (c i))) (h1:0<N→V 1=X 0) (hs:∀i,0<i→i<N→V (i+1)=bif c i then X i else V i) (hN:N<4611686018427387904) (h20:O 20 [.one (.v (.int .u64 (9218868437227405312)))] []=some (.one (.v (.flt 9218868437227405312)),[])) (h0:V 0=9218868437227405312) (hm:N<m):gbody P O m false b33 [.one (.v (.fz 1 N l))] hp=some (.one (.v (.flt (V N))),hp):=by
 refine wBody (tm:=(gput (some p0) (.one (.v (.fz 1 N l))) .e)) rfl (wSeq (wBlk (ggo (sMv rfl rfl) (gnil (nNorm (wSeq (wBlk (ggo (sCall (ds:=[.one (.v (.int .u64 (9218868437227405312)))]) (d:=.one (.v (.flt 9218868437227405312))) rfl (args1 (rfl)) (gcall_pure (us:=[.int .u64 (9218868437227405312)]) h20)) (ggo (sMv rfl rfl) (gnil (nNorm ?_)))))))))));refine wSeq (wSeq (wBlk (ggo (sMv rfl rfl) (gnil (nNorm (wBlock (wEx (loop33 hl hK hV hc h1 hs hN hm rfl (by rw[h0];first|done|rfl) rfl) ?_)))))))
 rintro ⟨tm1,hp1⟩ ⟨rfl,f0,f3,f4⟩
 refine bExit (nNorm (wSeq (wBlk (ggo (sMv rfl f3) (ggo (sMv rfl vhit) (gnil (nNorm (wRet ?_))))))));exact⟨_,.inl rfl,gends_tmp (gQ vhit)⟩
theorem loop34 {N:Nat} {l:List U} {X V K KV:Nat→Nat} {c:Nat→Bool} {P:Program} {O:Oracle2} {n:Nat} {hp:List GO} (hl:∀i,i<N→l[i]?=some (.flt (X i))) (hK:∀i,i<N→O 52 [.one (.v (.flt (X i)))] []=some (.one (.v (.int .u64 (.ofNat (K i)))),[])) (hV:∀i,0<i→i<N→O 52 [.one (.v (.flt (V i)))] []=some (.one (.v (.int .u64 (.ofNat (KV i)))),[]))
 (hc:∀i,0<i→i<N→cbin .gtr (.int .u64 (.ofNat (K i))) (.int .u64 (.ofNat (KV i)))=some (.bool (c i))) (h1:0<N→V 1=X 0) (hs:∀i,0<i→i<N→V (i+1)=bif c i then X i else V i) (hN:N<4611686018427387904) (hn:N<n) {tm:Tr GD} (k0:Tr.get p0 tm=some (.one (.v (.fz 1 N l)))) (k3:Tr.get p3 tm=some (.one (.v (.flt (V 0))))) (k4:Tr.get p4 tm=some (.one (.v (.int .i64 (.ofNat 0))))):
 ∃t,gev P O n (.loop L34) ⟨tm,hp⟩=.exit 0 t∧t.hp=hp∧Tr.get p0 t.tm=some (.one (.v (.fz 1 N l)))∧Tr.get p3 t.tm=some (.one (.v (.flt (V N))))∧Tr.get p4 t.tm=some (.one (.v (.int .i64 (.ofNat N)))):=by
 refine iter_up (f:=gev P O n L34) (I:=fun i g=>g.hp=hp∧Tr.get p0 g.tm=some (.one (.v (.fz 1 N l)))∧Tr.get p3 g.tm=some (.one (.v (.flt (V i))))∧Tr.get p4 g.tm=some (.one (.v (.int .i64 (.ofNat i))))) (N:=N) (id:=0) (Q:=fun t=>t.hp=hp∧Tr.get p0 t.tm=some (.one (.v (.fz 1 N l)))∧Tr.get p3 t.tm=some (.one (.v (.flt (V N))))∧Tr.get p4 t.tm=some (.one (.v (.int .i64 (.ofNat N))))) ?_ ?_ N 0 ⟨tm,hp⟩ n (by omega) hn ⟨rfl,k0,k3,k4⟩
 ·rintro i ⟨tm,hp1⟩ hi ⟨rfl,h0,h3,h4⟩
  show Wp P O n L34 ⟨tm,hp1⟩ (fun o=>∃g',o=.norm g'∧g'.hp=hp1∧Tr.get p0 g'.tm=some (.one (.v (.fz 1 N l)))∧Tr.get p3 g'.tm=some (.one (.v (.flt (V (i+1)))))∧Tr.get p4 g'.tm=some (.one (.v (.int .i64 (.ofNat (i+1))))));rcases Nat.eq_zero_or_pos i with hz|hp0
  ·have hv:=h1 (by omega)
   refine wSeq (wSeq (wBlk (ggo (sMv rfl h4) (ggo (sMv rfl (v1 rfl h0)) (ggo (sLenF rfl vhit) (ggo (sBin (c:=.bool true) rfl (v2 rfl vhit) vhit rfl rfl (ltT hi) rfl) (gnil (nNorm (wCond (t:=true) vhit (wSkip (nNorm ?_)))))))))));refine wSeq (wBlock (wSeq (wBlk (ggo (sMv rfl (v4 rfl h4)) (ggo (sBin (c:=.bool true) rfl vhit rfl rfl rfl (by rw[hz];exact eq0T) rfl) (ggo (sMv rfl vhit) (ggo (sSkip (gskip (gq vhit))) (ggo (sSkip (gskip (gq (v1 rfl vhit)))) (ggo (sSkip (gskip (gq (v2 rfl vhit)))) (ggo (sSkip (gskip (gq (v2 rfl (v1 rfl vhit))))) (ggo (sSkip (gskip (gq (v4 rfl vhit)))) ?_)))))))))));refine ggo (sSkip (gskip (gq (v4 rfl (v1 rfl vhit))))) (ggo (sSkip (gskip (gq (v4 rfl (v2 rfl vhit))))) (ggo (sSkip (gskip (gq (v4 rfl (v2 rfl (v1 rfl vhit)))))) (ggo (sPick (d:=.one (.v (.bool true))) rfl (v8 rfl vhit) rfl) (gnil (nNorm (wCond (t:=true) vhit (wBlk (ggo (sMv rfl (v8 rfl (v8 rfl h0))) (ggo (sMv rfl (v8 rfl (v8 rfl (v1 rfl h4)))) (ggo (sIasF (j:=i) rfl (v1 rfl vhit) vhit hi) (ggo (sLdF (d:=.one (.v (.flt (X i)))) rfl vhit (ld1k (hl i hi)) (ld1d (hl i hi))) ?_)))))))))));refine ggo (sMv rfl vhit) (gnil (bNorm (nNorm (wBlk (ggo (sMv rfl (v8 rfl (v8 rfl (v4 rfl (v1 rfl h4))))) (ggo (sBin (c:=.int .i64 (.ofNat (i+1))) rfl vhit rfl rfl rfl (inc64 (by omega)) rfl) (ggo (sMv rfl vhit) (gnil ?_))))))));refine⟨_,rfl,rfl,?_,?_,?_⟩
   ·exact gQ (v8 rfl (v8 rfl (v8 rfl h0)))
   ·dsimp only;rw[hz]at*;rw[hv];show gval _ (.t p3)=_;exact(v2 rfl (v1 rfl vhit))
   ·exact gQ vhit
  ·have hg:=hc i hp0 hi
   have hv:=hs i hp0 hi
   cases hci:c i
   ·rw[hci]at hg hv
    refine wSeq (wSeq (wBlk (ggo (sMv rfl h4) (ggo (sMv rfl (v1 rfl h0)) (ggo (sLenF rfl vhit) (ggo (sBin (c:=.bool true) rfl (v2 rfl vhit) vhit rfl rfl (ltT hi) rfl) (gnil (nNorm (wCond (t:=true) vhit (wSkip (nNorm ?_)))))))))));refine wSeq (wBlock (wSeq (wBlk (ggo (sMv rfl (v4 rfl h4)) (ggo (sBin (c:=.bool false) rfl vhit rfl rfl rfl (eq0F (by omega)) rfl) (ggo (sMv rfl vhit) (ggo (sMv (grun (gq vhit)) (v4 rfl (v2 rfl (v1 rfl h0)))) (ggo (sMv (grun (gq (v1 rfl vhit))) (v8 rfl h4)) (ggo (sIasF (j:=i) (grun (gq (v2 rfl vhit))) (v1 rfl vhit) vhit hi) (ggo (sLdF (d:=.one (.v (.flt (X i)))) (grun (gq (v2 rfl (v1 rfl vhit)))) vhit (ld1k (hl i hi)) (ld1d (hl i hi))) (ggo (sCall (ds:=[.one (.v (.flt (X i)))]) (d:=.one (.v (.int .u64 (.ofNat (K i))))) (grun (gq (v4 rfl vhit))) (args1 (vhit)) (gcall_pure (us:=[.flt (X i)]) (hK i hi))) ?_)))))))))));refine ggo (sMv (grun (gq (v4 rfl (v1 rfl vhit)))) (v8 rfl (v4 rfl h3))) (ggo (sCall (ds:=[.one (.v (.flt (V i)))]) (d:=.one (.v (.int .u64 (.ofNat (KV i))))) (grun (gq (v4 rfl (v2 rfl vhit)))) (args1 (vhit)) (gcall_pure (us:=[.flt (V i)]) (hV i hp0 hi))) (ggo (sBin (c:=.bool false) (grun (gq (v4 rfl (v2 rfl (v1 rfl vhit))))) (v2 rfl vhit) vhit rfl rfl hg rfl) (ggo (sPick (d:=.one (.v (.bool false))) rfl (v8 rfl vhit) vhit) (gnil (nNorm (wCond (t:=false) vhit (wSkip (bNorm (nNorm (wBlk (ggo (sMv rfl (v8 rfl (v8 rfl h4))) ?_)))))))))));refine ggo (sBin (c:=.int .i64 (.ofNat (i+1))) rfl vhit rfl rfl rfl (inc64 (by omega)) rfl) (ggo (sMv rfl vhit) (gnil ?_));refine⟨_,rfl,rfl,?_,?_,?_⟩
    ·exact gQ (v8 rfl (v8 rfl (v2 rfl (v1 rfl h0))))
    ·dsimp only;rw[hv];show gval _ (.t p3)=_;exact(v8 rfl (v8 rfl (v2 rfl (v1 rfl h3))))
    ·exact gQ vhit
   ·rw[hci]at hg hv
    refine wSeq (wSeq (wBlk (ggo (sMv rfl h4) (ggo (sMv rfl (v1 rfl h0)) (ggo (sLenF rfl vhit) (ggo (sBin (c:=.bool true) rfl (v2 rfl vhit) vhit rfl rfl (ltT hi) rfl) (gnil (nNorm (wCond (t:=true) vhit (wSkip (nNorm ?_)))))))))));refine wSeq (wBlock (wSeq (wBlk (ggo (sMv rfl (v4 rfl h4)) (ggo (sBin (c:=.bool false) rfl vhit rfl rfl rfl (eq0F (by omega)) rfl) (ggo (sMv rfl vhit) (ggo (sMv (grun (gq vhit)) (v4 rfl (v2 rfl (v1 rfl h0)))) (ggo (sMv (grun (gq (v1 rfl vhit))) (v8 rfl h4)) (ggo (sIasF (j:=i) (grun (gq (v2 rfl vhit))) (v1 rfl vhit) vhit hi) (ggo (sLdF (d:=.one (.v (.flt (X i)))) (grun (gq (v2 rfl (v1 rfl vhit)))) vhit (ld1k (hl i hi)) (ld1d (hl i hi))) (ggo (sCall (ds:=[.one (.v (.flt (X i)))]) (d:=.one (.v (.int .u64 (.ofNat (K i))))) (grun (gq (v4 rfl vhit))) (args1 (vhit)) (gcall_pure (us:=[.flt (X i)]) (hK i hi))) ?_)))))))))));refine ggo (sMv (grun (gq (v4 rfl (v1 rfl vhit)))) (v8 rfl (v4 rfl h3))) (ggo (sCall (ds:=[.one (.v (.flt (V i)))]) (d:=.one (.v (.int .u64 (.ofNat (KV i))))) (grun (gq (v4 rfl (v2 rfl vhit)))) (args1 (vhit)) (gcall_pure (us:=[.flt (V i)]) (hV i hp0 hi))) (ggo (sBin (c:=.bool true) (grun (gq (v4 rfl (v2 rfl (v1 rfl vhit))))) (v2 rfl vhit) vhit rfl rfl hg rfl) (ggo (sPick (d:=.one (.v (.bool true))) rfl (v8 rfl vhit) vhit) (gnil (nNorm (wCond (t:=true) vhit (wBlk (ggo (sMv rfl (v8 rfl (v8 rfl h0))) (ggo (sMv rfl (v8 rfl (v8 rfl (v1 rfl h4)))) (ggo (sIasF (j:=i) rfl (v1 rfl vhit) vhit hi) (ggo (sLdF (d:=.one (.v (.flt (X i)))) rfl vhit (ld1k (hl i hi)) (ld1d (hl i hi))) ?_)))))))))));refine ggo (sMv rfl vhit) (gnil (bNorm (nNorm (wBlk (ggo (sMv rfl (v8 rfl (v8 rfl (v4 rfl (v1 rfl h4))))) (ggo (sBin (c:=.int .i64 (.ofNat (i+1))) rfl vhit rfl rfl rfl (inc64 (by omega)) rfl) (ggo (sMv rfl vhit) (gnil ?_))))))));refine⟨_,rfl,rfl,?_,?_,?_⟩
    ·exact gQ (v8 rfl (v8 rfl (v8 rfl h0)))
    ·dsimp only;rw[hv];show gval _ (.t p3)=_;exact(v2 rfl (v1 rfl vhit))
    ·exact gQ vhit
 ·rintro ⟨tm,hp1⟩ ⟨rfl,h0,h3,h4⟩
  show Wp P O n L34 ⟨tm,hp1⟩ (fun o=>∃g',o=.exit 0 g'∧g'.hp=hp1∧Tr.get p0 g'.tm=some (.one (.v (.fz 1 N l)))∧Tr.get p3 g'.tm=some (.one (.v (.flt (V N))))∧Tr.get p4 g'.tm=some (.one (.v (.int .i64 (.ofNat N)))));refine wSeq (wSeq (wBlk (ggo (sMv rfl h4) (ggo (sMv rfl (v1 rfl h0)) (ggo (sLenF rfl vhit) (ggo (sBin (c:=.bool false) rfl (v2 rfl vhit) vhit rfl rfl (ltF (Nat.le_refl _)) rfl) (gnil (nNorm (wCond (t:=false) vhit (wExit (nExit ?_)))))))))));refine⟨_,rfl,rfl,?_,?_,?_⟩
  ·exact gQ (v4 rfl h0)
  ·exact gQ (v4 rfl h3)
  ·exact gQ (v4 rfl h4)
theorem ext34 {N:Nat} {l:List U} {X V K KV:Nat→Nat} {c:Nat→Bool} {P:Program} {O:Oracle2} {m:Nat} {hp:List GO} (hl:∀i,i<N→l[i]?=some (.flt (X i))) (hK:∀i,i<N→O 52 [.one (.v (.flt (X i)))] []=some (.one (.v (.int .u64 (.ofNat (K i)))),[])) (hV:∀i,0<i→i<N→O 52 [.one (.v (.flt (V i)))] []=some (.one (.v (.int .u64 (.ofNat (KV i)))),[]))
 (hc:∀i,0<i→i<N→cbin .gtr (.int .u64 (.ofNat (K i))) (.int .u64 (.ofNat (KV i)))=some (.bool (c i))) (h1:0<N→V 1=X 0) (hs:∀i,0<i→i<N→V (i+1)=bif c i then X i else V i) (hN:N<4611686018427387904) (h20:O 20 [.one (.v (.int .u64 (18442240474082181120)))] []=some (.one (.v (.flt 18442240474082181120)),[])) (h0:V 0=18442240474082181120) (hm:N<m):gbody P O m false b34 [.one (.v (.fz 1 N l))] hp=some (.one (.v (.flt (V N))),hp):=by
 refine wBody (tm:=(gput (some p0) (.one (.v (.fz 1 N l))) .e)) rfl (wSeq (wBlk (ggo (sMv rfl rfl) (gnil (nNorm (wSeq (wBlk (ggo (sCall (ds:=[.one (.v (.int .u64 (18442240474082181120)))]) (d:=.one (.v (.flt 18442240474082181120))) rfl (args1 (rfl)) (gcall_pure (us:=[.int .u64 (18442240474082181120)]) h20)) (ggo (sMv rfl rfl) (gnil (nNorm ?_)))))))))));refine wSeq (wSeq (wBlk (ggo (sMv rfl rfl) (gnil (nNorm (wBlock (wEx (loop34 hl hK hV hc h1 hs hN hm rfl (by rw[h0];first|done|rfl) rfl) ?_)))))))
 rintro ⟨tm1,hp1⟩ ⟨rfl,f0,f3,f4⟩
 refine bExit (nNorm (wSeq (wBlk (ggo (sMv rfl f3) (ggo (sMv rfl vhit) (gnil (nNorm (wRet ?_))))))));exact⟨_,.inl rfl,gends_tmp (gQ vhit)⟩
theorem loop58 {M:Nat} {l':List U} {X V:Nat→Nat} {c:Nat→Bool} {sg:Int} {P:Program} {O:Oracle2} {n:Nat} {hp:List GO} (hl:∀i,i<M→l'[i]?=some (.flt (X (i+1)))) (hc:∀i,i<M→∃r q:Int,O 36 [.one (.v (.flt (X (i+1)))),.one (.v (.flt (V i)))] []=some (.one (.v (.int .i64 r)),[])∧cbin .mul (.int .i64 r) (.int .i64 sg)=some (.int .i64 q)∧cbin .gtr (.int .i64 q) (.int .i64 (0))=some (.bool (c i)))
 (hs:∀i,i<M→V (i+1)=bif c i then X (i+1)else V i) (hN:M<4611686018427387904) (hn:M<n) {tm:Tr GD} (k18:Tr.get p18 tm=some (.one (.v (.fz 1 M l')))) (k19:Tr.get p19 tm=some (.one (.v (.int .i64 (.ofNat M))))) (k20:Tr.get p20 tm=some (.one (.v (.int .i64 (.ofNat 0))))) (k7:Tr.get p7 tm=some (.one (.v (.flt (V 0))))) (k1:Tr.get p1 tm=some (.one (.v (.int .i64 sg)))):
 ∃t,gev P O n (.loop L58) ⟨tm,hp⟩=.exit 0 t∧t.hp=hp∧Tr.get p18 t.tm=some (.one (.v (.fz 1 M l')))∧Tr.get p19 t.tm=some (.one (.v (.int .i64 (.ofNat M))))∧Tr.get p20 t.tm=some (.one (.v (.int .i64 (.ofNat M))))∧Tr.get p7 t.tm=some (.one (.v (.flt (V M))))∧Tr.get p1 t.tm=some (.one (.v (.int .i64 sg))):=by
 refine iter_up (f:=gev P O n L58) (I:=fun i g=>g.hp=hp∧Tr.get p18 g.tm=some (.one (.v (.fz 1 M l')))∧Tr.get p19 g.tm=some (.one (.v (.int .i64 (.ofNat M))))∧Tr.get p20 g.tm=some (.one (.v (.int .i64 (.ofNat i))))∧Tr.get p7 g.tm=some (.one (.v (.flt (V i))))∧Tr.get p1 g.tm=some (.one (.v (.int .i64 sg)))) (N:=M) (id:=0) (Q:=fun t=>t.hp=hp∧Tr.get p18 t.tm=some (.one (.v (.fz 1 M l')))∧Tr.get p19 t.tm=some (.one (.v (.int .i64 (.ofNat M))))∧Tr.get p20 t.tm=some (.one (.v (.int .i64 (.ofNat M))))∧Tr.get p7 t.tm=some (.one (.v (.flt (V M))))∧Tr.get p1 t.tm=some (.one (.v (.int .i64 sg)))) ?_ ?_ M 0 ⟨tm,hp⟩ n (by omega) hn ⟨rfl,k18,k19,k20,k7,k1⟩
 ·rintro i ⟨tm,hp1⟩ hi ⟨rfl,h18,h19,h20,h7,h1⟩
  show Wp P O n L58 ⟨tm,hp1⟩ (fun o=>∃g',o=.norm g'∧g'.hp=hp1∧Tr.get p18 g'.tm=some (.one (.v (.fz 1 M l')))∧Tr.get p19 g'.tm=some (.one (.v (.int .i64 (.ofNat M))))∧Tr.get p20 g'.tm=some (.one (.v (.int .i64 (.ofNat (i+1)))))∧Tr.get p7 g'.tm=some (.one (.v (.flt (V (i+1)))))∧Tr.get p1 g'.tm=some (.one (.v (.int .i64 sg))));obtain⟨r,q,h36,hq,hg⟩:=hc i hi;have hv:=hs i hi
  cases hci:c i
  ·rw[hci]at hg hv
   refine wSeq (wBlk (ggo (sBin (c:=.bool true) rfl h20 h19 rfl rfl (ltT hi) rfl) (gnil (nNorm (wSeq (wCond (t:=true) vhit (wSkip (nNorm (wSeq (wBlock (wSeq ?_)))))))))));refine wBlk (ggo (sIasF (j:=i) rfl (v1 rfl h18) (v1 rfl h20) hi) (ggo (sLdF (d:=.one (.v (.flt (X (i+1))))) rfl vhit (ld1k (hl i hi)) (ld1d (hl i hi))) (ggo (sMv rfl vhit) (gnil (nNorm (wSeq (wBlk (ggo (sMv rfl vhit) (ggo (sMv rfl (v4 rfl (v1 rfl h7))) (ggo (sCall (ds:=[.one (.v (.flt (X (i+1)))),.one (.v (.flt (V i)))]) (d:=.one (.v (.int .i64 r))) rfl (args2 ((v1 rfl vhit)) (vhit)) (gcall_pure (us:=[.flt (X (i+1)),.flt (V i)]) h36)) (ggo (sMv rfl (v4 rfl (v2 rfl (v1 rfl h1)))) ?_)))))))))));refine ggo (sBin (c:=.int .i64 q) rfl (v1 rfl vhit) vhit rfl rfl hq rfl) (ggo (sBin (c:=.bool false) rfl vhit rfl rfl rfl hg rfl) (gnil (nNorm (wCond (t:=false) vhit (wSkip (bNorm (nNorm (wBlk (ggo (sBin (c:=.int .i64 (.ofNat (i+1))) rfl (v8 rfl (v2 rfl h20)) rfl rfl rfl (inc64 (by omega)) rfl) (ggo (sMv rfl vhit) (gnil ?_)))))))))));refine⟨_,rfl,rfl,?_,?_,?_,?_,?_⟩
   ·exact gQ (v8 rfl (v4 rfl h18))
   ·exact gQ (v8 rfl (v4 rfl h19))
   ·exact gQ vhit
   ·dsimp only;rw[hv];show gval _ (.t p7)=_;exact(v8 rfl (v4 rfl h7))
   ·exact gQ (v8 rfl (v4 rfl h1))
  ·rw[hci]at hg hv
   refine wSeq (wBlk (ggo (sBin (c:=.bool true) rfl h20 h19 rfl rfl (ltT hi) rfl) (gnil (nNorm (wSeq (wCond (t:=true) vhit (wSkip (nNorm (wSeq (wBlock (wSeq ?_)))))))))));refine wBlk (ggo (sIasF (j:=i) rfl (v1 rfl h18) (v1 rfl h20) hi) (ggo (sLdF (d:=.one (.v (.flt (X (i+1))))) rfl vhit (ld1k (hl i hi)) (ld1d (hl i hi))) (ggo (sMv rfl vhit) (gnil (nNorm (wSeq (wBlk (ggo (sMv rfl vhit) (ggo (sMv rfl (v4 rfl (v1 rfl h7))) (ggo (sCall (ds:=[.one (.v (.flt (X (i+1)))),.one (.v (.flt (V i)))]) (d:=.one (.v (.int .i64 r))) rfl (args2 ((v1 rfl vhit)) (vhit)) (gcall_pure (us:=[.flt (X (i+1)),.flt (V i)]) h36)) (ggo (sMv rfl (v4 rfl (v2 rfl (v1 rfl h1)))) ?_)))))))))));refine ggo (sBin (c:=.int .i64 q) rfl (v1 rfl vhit) vhit rfl rfl hq rfl) (ggo (sBin (c:=.bool true) rfl vhit rfl rfl rfl hg rfl) (gnil (nNorm (wCond (t:=true) vhit (wBlk (ggo (sMv rfl (v4 rfl (v2 rfl vhit))) (ggo (sMv rfl vhit) (gnil (bNorm (nNorm (wBlk ?_)))))))))));refine ggo (sBin (c:=.int .i64 (.ofNat (i+1))) rfl (v8 rfl (v4 rfl h20)) rfl rfl rfl (inc64 (by omega)) rfl) (ggo (sMv rfl vhit) (gnil ?_));refine⟨_,rfl,rfl,?_,?_,?_,?_,?_⟩
   ·exact gQ (v8 rfl (v4 rfl (v2 rfl h18)))
   ·exact gQ (v8 rfl (v4 rfl (v2 rfl h19)))
   ·exact gQ vhit
   ·dsimp only;rw[hv];show gval _ (.t p7)=_;exact(v2 rfl vhit)
   ·exact gQ (v8 rfl (v4 rfl (v2 rfl h1)))
 ·rintro ⟨tm,hp1⟩ ⟨rfl,h18,h19,h20,h7,h1⟩
  show Wp P O n L58 ⟨tm,hp1⟩ (fun o=>∃g',o=.exit 0 g'∧g'.hp=hp1∧Tr.get p18 g'.tm=some (.one (.v (.fz 1 M l')))∧Tr.get p19 g'.tm=some (.one (.v (.int .i64 (.ofNat M))))∧Tr.get p20 g'.tm=some (.one (.v (.int .i64 (.ofNat M))))∧Tr.get p7 g'.tm=some (.one (.v (.flt (V M))))∧Tr.get p1 g'.tm=some (.one (.v (.int .i64 sg))));refine wSeq (wBlk (ggo (sBin (c:=.bool false) rfl h20 h19 rfl rfl (ltF (Nat.le_refl _)) rfl) (gnil (nNorm (wSeq (wCond (t:=false) vhit (wExit (nExit ?_))))))));refine⟨_,rfl,rfl,?_,?_,?_,?_,?_⟩
  ·exact gQ (v1 rfl h18)
  ·exact gQ (v1 rfl h19)
  ·exact gQ (v1 rfl h20)
  ·exact gQ (v1 rfl h7)
  ·exact gQ (v1 rfl h1)
noncomputable def cut1 (M:Nat) (l:List U):List U:=take ((Nat.succ M-1)*1) (drop (1*1) l)
theorem cut1_get {M:Nat} {l:List U} (h:l.length=M+1) (i:Nat) (hi:i<M):(cut1 M l)[i]?=l[i+1]?:=by
 unfold cut1;rw[take_eq,drop_eq,Nat.mul_one,Nat.mul_one,List.getElem?_take_of_lt (by omega),List.getElem?_drop,Nat.add_comm]
theorem sCut1 {P:Program} {O:Oracle2} {dst:Option Pos} {gd:Option (Pos×Bool)} {r fr:Nat} {tm:Tr GD} {hp:List GO} {x:A} {M:Nat} {l:List U} (hg:gguard gd tm=.run) (h:gval tm x=some (.one (.v (.fz 1 (M+1) l)))) (hlen:l.length=M+1):
 gstep1 P O ⟨dst,gd,r,fr,.sl 1 x (some (.c (.one (.int .i64 1)))) none⟩ ⟨tm,hp⟩=some ⟨gput dst (.one (.v (.fz 1 M (cut1 M l)))) tm,hp⟩:=by
 unfold gstep1;rw[hg];have h1:gbnd tm (some (.c (.one (.int .i64 1)))) 0 (M+1)=some 1:=by
  show idx 1 (Nat.succ (M+1))=some 1;show(Bool.rec none (some 1) (Nat.ble (Nat.succ 1) (Nat.succ (M+1))):Option Nat)=_;rw[(ble_iff _ _).2 (by omega)]
 have h2:gcut tm 1 (some (.c (.one (.int .i64 1)))) none 1 (M+1) l=some (.one (.v (.fz 1 M (cut1 M l)))):=by
  unfold gcut;have h3:gbnd tm none (M+1) (M+1)=some (M+1):=rfl;have h4:Nat.beq (len l) ((M+1)*1)=true:=by rw[beq_iff,len_eq,hlen];omega
  simp only[h3,h1,h4];rfl
 simp only[grd,gcel_v h,h2]
theorem first58 {M:Nat} {l l':List U} {X V:Nat→Nat} {c:Nat→Bool} {sg:Int} {em:U} {P:Program} {O:Oracle2} {m:Nat} {hp:List GO} (hl:∀i,i<M→l[i+1]?=some (.flt (X (i+1)))) (hc:∀i,i<M→∃r q:Int,O 36 [.one (.v (.flt (X (i+1)))),.one (.v (.flt (V i)))] []=some (.one (.v (.int .i64 r)),[])∧cbin .mul (.int .i64 r) (.int .i64 sg)=some (.int .i64 q)∧cbin .gtr (.int .i64 q) (.int .i64 (0))=some (.bool (c i)))
 (hs:∀i,i<M→V (i+1)=bif c i then X (i+1)else V i) (hN:M<4611686018427387904) (h0:l[0]?=some (.flt (X 0))) (hV0:V 0=X 0) (hlen:l.length=M+1) (hm:M<m):gbody P O m false b58 [.one (.v (.fz 1 (M+1) l)),.one (.v (.int .i64 sg)),.one (.v em)] hp=some (.one (.v (.flt (V M))),hp):=by
 refine wBody (tm:=(gput (some p2) (.one (.v em)) (gput (some p1) (.one (.v (.int .i64 sg))) (gput (some p0) (.one (.v (.fz 1 (M+1) l))) .e)))) rfl (wSeq (wBlk (ggo (sMv rfl rfl) (gnil (nNorm (wSeq (wSeq (wBlk (ggo (sMv rfl rfl) (ggo (sLenF rfl rfl) (ggo (sBin (c:=.bool false) rfl rfl rfl rfl rfl (eq0F (by omega)) rfl) ?_)))))))))));refine gnil (nNorm (wCond (t:=false) rfl (wSkip (nNorm (wSeq (wBlk (ggo (sMv rfl rfl) (ggo (sIasF (j:=0) rfl rfl rfl (Nat.succ_pos M)) (ggo (sLdF (d:=.one (.v (.flt (X 0)))) rfl rfl (ld1k h0) (ld1d h0)) (ggo (sMv rfl rfl) (gnil ?_)))))))))));refine nNorm (wSeq (wSeq (wBlk (ggo (sMv rfl rfl) (ggo (sCut1 rfl rfl hlen) (ggo (sLenF rfl rfl) (ggo (sMv rfl rfl) (gnil (nNorm (wBlock (wEx (loop58 (fun i hi=>(cut1_get hlen i hi).trans (hl i hi)) hc hs hN hm rfl rfl rfl (by rw[hV0];first|done|rfl) rfl) ?_)))))))))))
 rintro ⟨tm1,hp1⟩ ⟨rfl,f18,f19,f20,f7,f1⟩
 refine bExit (nNorm (wSeq (wBlk (ggo (sMv rfl f7) (ggo (sMv rfl vhit) (gnil (nNorm (wRet ?_))))))));exact⟨_,.inl rfl,gends_tmp (gQ vhit)⟩
end Go.Proofs.YtiahijhpjloijaaGreat.V

