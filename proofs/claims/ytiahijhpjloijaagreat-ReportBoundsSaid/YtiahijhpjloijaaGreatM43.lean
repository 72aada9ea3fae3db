/- Parts of the proof, put together: T8. -/
import Derived.Test.YtiahijhpjloijaaGreatM42
import Derived.Test.YtiahijhpjloijaaGreatM40
import Derived.Test.YtiahijhpjloijaaGreatM24
set_option linter.unusedVariables false
set_option linter.unusedSimpArgs false
namespace Go.Proofs.YtiahijhpjloijaaGreat.V
open Go Go.RowKit
noncomputable def yesR (r:Option (D×Tr Ob×Pos)):Bool:=match r with|some (.one (.bool true),_,_)=>true|_=>false
theorem begun_yes:yesR (D2 kxs 7 [] .e .h)=true:=by kernel_rfl
noncomputable def K7:Oracle:=subO 3 (D2 kxs)
theorem subO_bool {O:Oracle} {f:Nat} {b:Bool} {h2:Tr Ob} {n2:Pos} (h:O f [] .e .h=some (.one (.bool b),h2,n2)) (hp:Tr Ob) (nx:Pos):subO 3 O f [] hp nx=some (.one (.bool b),hp,nx):=by
 have h0:subO 3 O f [] hp nx=(match O f [] .e .h with
  |some (d,h2,_)=>match lay 3 .e nx d h2 with
   |some (d',ne,nx')=>
    (match renD (up ne .e) d with
    |some d''=>Bool.rec none (some (d',hb ne hp,nx'))
     (Bool.rec false (Bool.rec false (all (okNew hp h2 .e (up ne .e) (dn ne .e)) ne) (all (okSt h2) [])) (sameD d'' d'))
    |none=>none)
   |none=>none
  |none=>none):=rfl
 rw[h0,h]
 cases b<;>rfl
theorem k7_yes (hp:Tr Ob) (nx:Pos):K7 7 [] hp nx=some (.one (.bool true),hp,nx):=by
 have h:=begun_yes;unfold yesR at h
 split at h
 ·rename_i h2 n2 hr
  exact subO_bool hr hp nx
 ·cases h
noncomputable def O1 (n:Nat):Oracle:=fun f ds hp nx=>Bool.rec (DD n f ds hp nx) (K7 f ds hp nx) (Nat.beq f 7)
noncomputable def O2 (n:Nat):Oracle2:=fun f ds H=>Bool.rec (GDD n f ds H) (match ds,H with|[],[]=>some (.one (.v (.bool true)),[])|_,_=>none) (Nat.beq f 7)
theorem K7_good:Good Tryz.prog K7:=subO_good (D2_good kxs_ok) _
theorem O1_good (n:Nat):Good Tryz.prog (O1 n):=by
 intro f ds hp nx d hp' nx' h;unfold O1 at h;rw[brec']at h
 split at h
 ·exact K7_good f ds hp nx d hp' nx' h
 ·exact DD_good n f ds hp nx d hp' nx' h
theorem DD_fr (n:Nat):Fr (DD n):=(den_good mixed F1_fits X1_good FUEL n).2
theorem O1_fr (n:Nat):Fr (O1 n):=by
 intro f ds hp nx d hp' nx' h;unfold O1 at h⊢;rw[brec']at h
 split at h
 ·rename_i hf
  obtain⟨k1,k2⟩:=subO_fr (O:=D2 kxs) 3 f ds hp nx d hp' nx' h;exact⟨k1,fun id e cs hn=>by rw[brec',if_pos hf];exact k2 id e cs hn⟩
 ·rename_i hf
  obtain⟨k1,k2⟩:=DD_fr n f ds hp nx d hp' nx' h;exact⟨k1,fun id e cs hn=>by rw[brec',if_neg hf];exact k2 id e cs hn⟩
theorem O2_good (n:Nat):Good2 (O2 n) (O1 n):=by
 intro f ds H d H' h E hp nx Ds hH ha hl;unfold O2 at h;unfold O1;rw[brec']at h⊢
 split at h
 ·rename_i hf
  rw[if_pos hf];have hf:=(beq_iff _ _).1 hf;subst hf
  split at h
  ·cases h
   cases ha
   exact⟨_,hp,nx,E,k7_yes hp nx,(by show RU _ _ _ _;rw[RU]),hH,.refl _ _ _,hl,Nat.le_refl _⟩
  ·cases h
 ·rename_i hf
  rw[if_neg hf];exact GDD_good n f ds H d H' h E hp nx Ds hH ha hl
theorem o2_eq {f:Nat} (h:Nat.beq f 7=false) (n:Nat) (ds:List GD) (H:List GO):O2 n f ds H=GDD n f ds H:=by
 unfold O2;rw[h]
theorem short_val:fstO (GDD 20 16 [.one (.v (.int .i64 60)),.one (.v (.int .i64 100))] [])=some (.one (.v (.int .i64 49))):=by kernel_rfl
theorem law4 {up um:U} {np nm:Nat} (hbp:Byt up np) (hbm:Byt um nm):∃H,gbody Tryz.prog (O2 20) FUEL false b4 [.one (.v up),.one (.v um)] []=some (.one (.v (.bool true)),H):=by
 have q7:O2 20 7 [] []=some (.one (.v (.bool true)),[]):=rfl
 by_cases hc:30<np
 ·exact law4_a hbp hbm q7 hc
 ·by_cases hd:250<nm
  ·exact law4_b hbp hbm q7 hc hd
  ·obtain⟨im,Hm,um2,q8m,wm,hm2⟩:=made8 hbm (by omega) 19
   obtain⟨ip,Hp,up2,q8p,wp,hp2⟩:=made8 hbp (by omega) 19;obtain⟨ws,o10,H10,q10,wt,o9,H9,q9,hws,hwt,N,k,m,cl,hN0,hN,hm3,h17,hcf⟩:=run_world hm2 (by omega) hp2 (by omega) 7;obtain⟨fs,h,a,nw,mo,un,hok,hha⟩:=world_ok hwt h17 hm3 hcf;obtain⟨⟨G11,q11⟩,_⟩:=of_both hok 14;obtain⟨x0,e0,l0⟩:=rep0_ok hN hha;obtain⟨G16,q16⟩:=fstO_some short_val;have hg:∀i j,i<3→j<6→cbin .gtr (.int .i64 (.ofNat (lfN nw mo un i j))) (.int .i64 (0))=some (.bool (gtN0 nw mo un i j)):=fun i j _ _=>by
    show some (C.bool (ilt (.ofNat 0) (.ofNat (lfN nw mo un i j))))=_;rw[ilt_nat];rfl
   have key:∃x1 x2 x3,rep1 (left nw mo un)=.flt x1∧rep2 (left nw mo un)=.flt x2∧rep3 (left nw mo un)=.flt x3∧
    (outL (gtN0 nw mo un) (lfN nw mo un) 3=[]→cbin .neq (.flt x1) (.flt x1)=some (.bool true)∧cbin .gtr (.flt x2) (.flt 4652007308841189376)=some (.bool true)∧cbin .lss (.flt x3) (.flt 13875379345695965184)=some (.bool true))∧
    (outL (gtN0 nw mo un) (lfN nw mo un) 3≠[]→cbin .geq (.flt x2) (.flt 4607182418800017408)=some (.bool true)∧cbin .leq (.flt x2) (.flt x1)=some (.bool true)∧cbin .leq (.flt x1) (.flt x3)=some (.bool true)∧cbin .leq (.flt x3) (.flt (fl 49))=some (.bool true)):=by
    by_cases hl:left nw mo un=[]
    ·rw[hl]
     exact⟨_,_,_,rfl,rfl,rfl,fun _=>⟨by kernel_rfl,by kernel_rfl,by kernel_rfl⟩,fun hne=>absurd hl hne⟩
    ·obtain⟨q,m,M,k1,k2,k3,k4,k5,k6,k7⟩:=reps_in hok hl
     have f49:fl 49<9218868437227405312:=fl_fin (by omega);have fM:fl M≤fl 49:=fl_le k7 (by omega);have f1:4607182418800017408≤fl m:=by
      rw[←fl_one];exact fl_le k4.1 (by have:=k4.2;omega)
     refine⟨q,fl m,fl M,k1,k2,k3,fun h=>absurd h hl,fun _=>⟨?_,?_,?_,?_⟩⟩
     ·rw[c_geq (by omega) (by omega),decide_eq_true f1]
     ·rw[c_leq (by omega) (by omega),decide_eq_true k5]
     ·rw[c_leq (by omega) (by omega),decide_eq_true k6]
     ·rw[c_leq (by omega) (by omega),decide_eq_true fM]
   obtain⟨x1,x2,x3,e1,e2,e3,hz,hp⟩:=key;rw[e0,e1,e2,e3]at q11;exact law4_c hbp hbm q7 hc hd ((o2_eq rfl _ _ _).trans q8m) wm ((o2_eq rfl _ _ _).trans q8p) wp ((o2_eq rfl _ _ _).trans q10) ((o2_eq rfl _ _ _).trans q9) hwt ((o2_eq rfl _ _ _).trans q11)
    (fun i j hi hj=>by
      obtain⟨G,hG⟩:=(left_both hok hi hj 17).2;exact⟨G,(o2_eq rfl _ _ _).trans hG⟩) hg (fuel_lt (by omega)) ((o2_eq rfl _ _ _).trans q16)
    (by rw[c_lss (by omega) (by omega),decide_eq_false (by omega)]) (by rw[c_gtr (by omega) (by omega),decide_eq_false (by omega)]) (c_neq (by omega)) hz hp
end Go.Proofs.YtiahijhpjloijaaGreat.V

