/- ReportAll: it returns true, for every picks, more, a and b; what they lead to reads as it did. No condition. -/
import Derived.Test.YtiahijhpjloijaaGreatRows
import Derived.Test.YtiahijhpjloijaaGreatM28
import Derived.WalkKit
import Derived.ProofKit
import Derived.OpenShut
import Derived.ShutString
import Derived.ChangeOld
import Derived.Below
import Derived.SizedLaws
import Derived.ChangeArms
import Derived.ChangeSlices
namespace Go.Proofs.YtiahijhpjloijaaGreat.reportAll
open Go.ChangeShapes Go.WideShapes Go.ChangeAt Go.RowKit
open Go.ChangeMaps (open_string shut_string)
set_option linter.unusedVariables false
theorem own:ownKnob Tryz.prog.godebug=none:=by kernel_rfl
theorem laidOut:laidOutB Tryz.prog=true:=by kernel_rfl
section
variable{P:Program} {H:Type} {enc:TypeId×Value→H} {w:World} {base:Nat} {sp:Nat→Bool} {held:Bool}
theorem trod_flt {t:TypeId} {fuel:Nat} {u:Value} {y:DataW H×List MemPlace} (ht:P.underlying t=some (.float .f64)) (h:DataW.trod enc P w base sp held fuel t [u]=some y):∃b,u=.float .f64 b∧b<18446744073709551616:=by
 cases fuel with
 |zero=>simp[DataW.trod]at h
 |succ n=>
  unfold DataW.trod at h;rw[ht]at h
  cases u<;>simp at h
  rename_i k b;obtain⟨⟨hk,hw⟩,_⟩:=h;subst hk;exact⟨b,rfl,by simpa [Lit.wf]using hw⟩
theorem okWide_struct {t:TypeId} {fs:Array Field} {v:Value} {r:Reach} {b0:Nat} (ht:P.underlying t=some (.struct fs)) (hval:Value.okWide P w r b0 t v):∃cs,v=.agg cs∧cs.size=P.cellsOf t:=by
 unfold Value.okWide at hval;rw[ht]at hval;obtain⟨cs,h1,h2,_⟩:=hval;exact⟨cs,h1,h2⟩
theorem open_four {t e:TypeId} {f0 f1 f2 f3:Field} {v:Value} {r:Reach} {b0:Nat} {d:DataW H} {ps:List MemPlace} (hu:P.underlying t=some (.struct #[f0,f1,f2,f3])) (he:P.underlying e=some (.float .f64)) (h4:P.cellsOf t=4) (h1:P.cellsOf e=1)
 (t0:f0.type=e∧f0.offset=0) (t1:f1.type=e∧f1.offset=1) (t2:f2.type=e∧f2.offset=2) (t3:f3.type=e∧f3.offset=3) (hval:Value.okWide P w r b0 t v) (hd:DataW.Trod enc P w base sp held t v d ps):
 ∃x0 x1 x2 x3,v=.agg #[.float .f64 x0,.float .f64 x1,.float .f64 x2,.float .f64 x3]∧(x0<18446744073709551616∧x1<18446744073709551616∧x2<18446744073709551616∧x3<18446744073709551616):=by
 obtain⟨cs,rfl,hsz⟩:=okWide_struct hu hval;rw[h4]at hsz;obtain⟨fuel,hf⟩:=hd;obtain⟨xs,n,_,_,_,hlen,hfs⟩:=DataW.trod_struct hu hf;obtain⟨l⟩:=cs
 match l,hsz with
 |[u0,u1,u2,u3],_=>
  match xs,hlen with
  |[y0,y1,y2,y3],_=>
   have g0:=hfs 0 f0 rfl;have g1:=hfs 1 f1 rfl;have g2:=hfs 2 f2 rfl;have g3:=hfs 3 f3 rfl;rw[t0.1,t0.2,h1]at g0;rw[t1.1,t1.2,h1]at g1;rw[t2.1,t2.2,h1]at g2;rw[t3.1,t3.2,h1]at g3;obtain⟨x0,rfl,k0⟩:=trod_flt he g0;obtain⟨x1,rfl,k1⟩:=trod_flt he g1;obtain⟨x2,rfl,k2⟩:=trod_flt he g2;obtain⟨x3,rfl,k3⟩:=trod_flt he g3;exact⟨x0,x1,x2,x3,rfl,k0,k1,k2,k3⟩
set_option maxRecDepth 100000 in
theorem open_report {v:Value} {r:Reach} {b0:Nat} {d:DataW H} {ps:List MemPlace} (hval:Value.okWide Tryz.prog w r b0 25 v) (hd:DataW.Trod enc Tryz.prog w base sp held 25 v d ps):
 ∃x0 x1 x2 x3,v=.agg #[.float .f64 x0,.float .f64 x1,.float .f64 x2,.float .f64 x3]∧(x0<18446744073709551616∧x1<18446744073709551616∧x2<18446744073709551616∧x3<18446744073709551616):=
 open_four Tryz.underlying25 Tryz.underlying23 (by kernel_rfl) (by kernel_rfl) ⟨rfl,rfl⟩ ⟨rfl,rfl⟩ ⟨rfl,rfl⟩ ⟨rfl,rfl⟩ hval hd
theorem open_bytes {a:Option Addr} {len cap:Nat} {d:DataW H} {ps:List MemPlace} (hd:DataW.Trod enc Tryz.prog w 0 (fun _=>true) held 22 (.slice a len cap) d ps):∃zs,V.ByteRow w a len cap zs:=by
 obtain⟨fuel,hf⟩:=hd;rcases open_ints Tryz.underlying22 Tryz.underlying5 (by kernel_rfl) hf with⟨hcs,_⟩|⟨x,l,c,zs,hcs,_,hl,hm,hz,_,hcell,hwz⟩
 ·simp[Value.cells]at hcs
  obtain⟨rfl,rfl,rfl⟩:=hcs;exact⟨[],.inl ⟨rfl,rfl,rfl,rfl⟩⟩
 ·simp[Value.cells]at hcs
  obtain⟨rfl,rfl,rfl⟩:=hcs;exact⟨zs,.inr ⟨_,rfl,hl,hm,by simpa using hz,hcell,hwz⟩⟩
end
set_option maxRecDepth 100000 in
theorem lifted (os:Os) (started:os.Started) (H:Type) (enc:TypeId×Value→H):
 ReturnsInHanded {} Tryz.checked os 3 .any (Rows.reportAllSpec.pre6 enc Tryz.prog Tryz.f3 Rows.reportAllRow.domain false) (Rows.reportAllSpec.post enc Tryz.prog Tryz.f3 false true false false):=by
 refine returnsInHanded_of_change_sized (C:=Tryz.checked) own started (by kernel_rfl) Tryz.func3
  (ChangeSpec.witness6 (enc:=enc) (C:=Tryz.checked) false ⟨#[],#[.slice none 0 0,.slice none 0 0,.agg #[.float .f64 0,.float .f64 0,.float .f64 0,.float .f64 0],.agg #[.float .f64 0,.float .f64 0,.float .f64 0,.float .f64 0]],[]⟩ 8 (by kernel_rfl) (by kernel_rfl) (by kernel_rfl) (by kernel_rfl)) ?_
 intro W base args ds gs before hval0 hW hcnd hsz0 _;have hval:∀(j:Nat) t v,Tryz.f3.params[j]?=some t→args[j]?=some v→Value.okWide Tryz.prog W .any base t v:=hval0;have hW':=hW;obtain⟨p,q,hA0,hV,rfl,hfz,hnd⟩:=hW;have hA:DataW.TrodAll enc Tryz.prog W 0 (fun _=>true) true Tryz.f3.params.toList args.toList ds p:=hA0;rw[Tryz.params3]at hA hval;obtain⟨v0,vs0,d0,ds0,p0,q0,hargs,rfl,rfl,h0,r0⟩:=trodAll_cons hA;obtain⟨v1,vs1,d1,ds1,p1,q1,rfl,rfl,rfl,h1,r1⟩:=trodAll_cons r0;obtain⟨v2,vs2,d2,ds2,p2,q2,rfl,rfl,rfl,h2,r2⟩:=trodAll_cons r1;obtain⟨v3,vs3,d3,ds3,p3,q3,rfl,rfl,rfl,h3,r3⟩:=trodAll_cons r2;obtain⟨rfl,rfl,rfl⟩:=trodAll_nil r3;obtain rfl:args=#[v0,v1,v2,v3]:=by cases args;simp_all
 obtain⟨rfl,rfl⟩:=trodVars_none hV;have k0:=h0;have lt0:∀x∈p0,x.block<W.heap.size:=by obtain⟨m,hm⟩:=k0;exact DataW.trod_lt m _ _ _ hm
 have k1:=h1;have lt1:∀x∈p1,x.block<W.heap.size:=by obtain⟨m,hm⟩:=k1;exact DataW.trod_lt m _ _ _ hm
 have k2:=h2;have lt2:∀x∈p2,x.block<W.heap.size:=by obtain⟨m,hm⟩:=k2;exact DataW.trod_lt m _ _ _ hm
 have k3:=h3;have lt3:∀x∈p3,x.block<W.heap.size:=by obtain⟨m,hm⟩:=k3;exact DataW.trod_lt m _ _ _ hm
 obtain⟨a0,len0,cap0,rfl⟩:=okWide_slice Tryz.underlying22 (hval 0 22 v0 rfl rfl);obtain⟨a1,len1,cap1,rfl⟩:=okWide_slice Tryz.underlying22 (hval 1 22 v1 rfl rfl);obtain⟨z0,w0⟩:=open_bytes h0;obtain⟨z1,w1⟩:=open_bytes h1;obtain⟨x0,x1,x2,x3,rfl,hx⟩:=open_report (hval 2 25 v2 rfl rfl) h2;obtain⟨y0,y1,y2,y3,rfl,hy⟩:=open_report (hval 3 25 v3 rfl rfl) h3;clear hA0 hval0 hsz0;refine(V.all_walk w0 w1 hx hy).mono fun e W' ⟨he,bel⟩=>?_
 subst he;exact⟨_,rfl,_,_,_,[],_,[],hW',trodAll_mk1 (shut_bool Tryz.underlying4 _),(trodAll_cons_mk (Below.trod laidOut (by kernel_rfl) (of_decide_eq_true (by kernel_rfl)) k0 bel lt0) (trodAll_cons_mk (Below.trod laidOut (by kernel_rfl) (of_decide_eq_true (by kernel_rfl)) k1 bel lt1) (trodAll_cons_mk (Below.trod laidOut (by kernel_rfl) (of_decide_eq_true (by kernel_rfl)) k2 bel lt2) (trodAll_cons_mk (Below.trod laidOut (by kernel_rfl) (of_decide_eq_true (by kernel_rfl)) k3 bel lt3) trodAll_mk0)))),rfl,bel.frame _,fun h=>by cases h⟩
theorem over:Rows.reportAllRow.holds Tryz.pinned (OpenSpec.ofChange Rows.reportAllSpec):=
 OpenClaim.holds_of_wide 3 Tryz.f3 rfl rfl rfl rfl rfl rfl rfl ⟨rfl,rfl,rfl,rfl,rfl⟩ rfl rfl rfl rfl rfl (by kernel_rfl) Tryz.func3 (by kernel_rfl)
  (of_decide_eq_true (by kernel_rfl)) (by unfold Func.isWrapper;first|(rw[if_pos (by decide+kernel)];kernel_rfl)|(rw[if_neg (by decide+kernel)];exact⟨rfl,rfl⟩))
  (fun os started H enc _=>lifted os started H enc)
theorem proved:Rows.ReportAllSaid:=over
#print axioms proved
end Go.Proofs.YtiahijhpjloijaaGreat.reportAll
namespace Go.Proofs.YtiahijhpjloijaaGreat
theorem reportAll_holds:Rows.ReportAllSaid:=reportAll.proved
end Go.Proofs.YtiahijhpjloijaaGreat
