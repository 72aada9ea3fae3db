/- Parts of the proof, put together: C1, C2, C3. -/
import Derived.Test.YtiahijhpjloijaaGreatM6
import Derived.Test.YtiahijhpjloijaaGreatM5
import Derived.Test.YtiahijhpjloijaaGreatProg
import Derived.KernelRfl
import Derived.Test.YtiahijhpjloijaaGreatM2
import Derived.WalkKit
import Derived.WalkLawsBesides
import Derived.Laws.Externs
import Derived.Laws.FloatArith
import Derived.Laws.BitsAllLaws
import Derived.Laws.BitsLemmas
import Derived.Outline
import Derived.Lib.Hide
import Derived.Deep.QuietTactic
import Derived.BigQuiet
set_option linter.unusedVariables false
set_option linter.unusedSimpArgs false
namespace Go.Proofs.YtiahijhpjloijaaGreat.V
open Go Go.RowKit
noncomputable def okf (f:Nat):Bool:=match fns f with
 |none=>true
 |some b=>match Tryz.prog.funcs[f]? with
  |some fn=>(!(fn.name== "runtime.NumGoroutine"))&&fitF Tryz.prog fn b
  |none=>false
theorem ok1:all okf (List.range' 0 60)=true:=by kernel_rfl
theorem ok2:all okf (List.range' 60 60)=true:=by kernel_rfl
theorem ok3:all okf (List.range' 120 56)=true:=by kernel_rfl
theorem fns_top (f:Nat) (h:176≤f):fns f=none:=by
 have h1:Nat.div f 16≥11:=by show f/16≥11;omega
 have h2:nth table (Nat.div f 16)=none:=by
  rw[nth_eq,List.getElem?_eq_none];exact h1
 unfold fns;rw[h2]
theorem fits:Fits Tryz.prog fns:=by
 intro f b hb;have hf:okf f=true:=by
  by_cases h:f<176
  ·by_cases h1:f<60
   ·exact all_true ok1 f (by rw[List.mem_range'_1];omega)
   ·by_cases h2:f<120
    ·exact all_true ok2 f (by rw[List.mem_range'_1];omega)
    ·exact all_true ok3 f (by rw[List.mem_range'_1];omega)
  ·rw[fns_top f (by omega)]at hb;cases hb
 unfold okf at hf;rw[hb]at hf;simp only[]at hf
 split at hf
 ·rename_i fn hfn
  simp only[Bool.and_eq_true,Bool.not_eq_true']at hf;exact⟨fn,hfn,hf.1,hf.2⟩
 ·cases hf
theorem mixed:Tryz.prog.follows .mixedOrders=true:=by kernel_rfl
end Go.Proofs.YtiahijhpjloijaaGreat.V

namespace Go.Proofs.YtiahijhpjloijaaGreat.V2
open Go.RowKit
open Fl
theorem ext20 (n:Int) (w:World):(callFunc 20 #[.int .u64 n]).run Tryz.prog w=.ok (.value (.float .f64 n.toNat)) w:=by
 rw[run_callFunc_extern (e:=Extern.MathFloatBits.float64frombits) Tryz.func20 (by kernel_rfl) (by kernel_rfl) (by kernel_rfl) (by kernel_rfl)];rfl
theorem ext89 (b:Nat) (w:World):(callFunc 89 #[.float .f64 b]).run Tryz.prog w=.ok (.value (.int .u64 (b:Int))) w:=by
 rw[run_callFunc_extern (e:=Extern.MathFloatBits.float64bits) Tryz.func89 (by kernel_rfl) (by kernel_rfl) (by kernel_rfl) (by kernel_rfl)];rfl
theorem call52 (vs:Array Value) (w:World):(callFunc 52 vs).run Tryz.prog w=.ok (.enter 52 vs) w:=by
 have hn:(Tryz.f52.name== "runtime.NumGoroutine")=false:=by kernel_rfl
 have hb:Tryz.f52.body.isNone=false:=by kernel_rfl
 simp only[callFunc,Sem.run_bind,run_program,Result.andThen_ok,Tryz.func52,hn,hb,Bool.false_eq_true,if_false,Sem.run_pure]
theorem and_mask {a:Nat} (ha:a<18446744073709551616):bits .and .u64 (a:Int) 9223372036854775807=(rung a:Int):=by
 have:=u64_and_nat a 9223372036854775807 ha (by decide);rw[show((9223372036854775807:Nat):Int)=9223372036854775807 from rfl]at this;rw[this];congr 1;exact Nat.and_two_pow_sub_one_eq_mod a 63
set_option maxHeartbeats 800000 in
theorem key_nan (b:Nat) (hN:isN b=true) (hb:b<18446744073709551616) (w:World):Calls Tryz.prog 52 #[.float .f64 b] w fun e w'=>e=.returned (.int .u64 18446744073709551615)∧w'=w:=by
 have e89:=ext89;have hm:((9218868437227405312:Int)<(bits .and .u64 (b:Int) 9223372036854775807)):=by
  rw[and_mask hb];have:INF<rung b:=by simpa [isN]using hN
  have e:INF=9218868437227405312:=rfl;omega
 go_enter Tryz.func52,Tryz.ntmps52
 go_wp2
 go_ret
 exact⟨rfl,rfl⟩
end Go.Proofs.YtiahijhpjloijaaGreat.V2

namespace Go.Proofs.YtiahijhpjloijaaGreat.V
open Go Go.RowKit
noncomputable def F1 (f:Nat):Option Fn:=Bool.rec (fns f) none (Nat.beq f 52)
noncomputable def x20 (ds:List D) (hp:Tr Ob) (nx:Pos):Option (D×Tr Ob×Pos):=match ds with|[.one (.int .u64 (.ofNat n))]=>some (.one (.flt n),hp,nx)|_=>none
noncomputable def x89 (ds:List D) (hp:Tr Ob) (nx:Pos):Option (D×Tr Ob×Pos):=match ds with|[.one (.flt b)]=>some (.one (.int .u64 (.ofNat b)),hp,nx)|_=>none
noncomputable def x52 (O:Oracle) (ds:List D) (hp:Tr Ob) (nx:Pos):Option (D×Tr Ob×Pos):=match ds with|[.one .nan]=>some (.one (.int .u64 18446744073709551615),hp,nx)|_=>body Tryz.prog O 100000 b52 ds hp nx
noncomputable def X1:Oracle→Oracle:=fun O f ds hp nx=>
 Bool.rec (Bool.rec (Bool.rec none (x52 O ds hp nx) (Nat.beq f 52)) (x89 ds hp nx) (Nat.beq f 89)) (x20 ds hp nx) (Nat.beq f 20)
theorem F1_fits:Fits Tryz.prog F1:=by
 intro f b h;unfold F1 at h;rw[brec']at h
 split at h
 ·cases h
 ·exact fits f b h
theorem al1 {β:Blk} {d:D} {vs:Array Value} (h:Al (DV β) [d] vs.toList):∃v,vs=#[v]∧DV β d v:=by
 cases hl:vs.toList with
 |nil=>rw[hl]at h;cases h
 |cons v l=>
  rw[hl]at h
  cases h with
  |cons hd ht=>cases ht;exact⟨v,one1 hl,hd⟩
theorem X1_good (O:Oracle) (hG:Good Tryz.prog O) (hO:Fr O):Good Tryz.prog (X1 O)∧Fr (X1 O):=by
 constructor
 ·intro f ds hp nx d hp' nx' h β w vs hH hv
  unfold X1 at h;rw[brec']at h
  split at h
  ·rename_i hf
   rw[beq_iff]at hf;subst hf;unfold x20 at h
   split at h
   ·rename_i n
    cases h
    obtain⟨v,rfl,hd⟩:=al1 hv;have hd:v=.int .u64 (n:Int):=hd;subst hd;exact .inr ⟨_,β,w,V2.ext20 n w,rfl,hH,Mv.refl _ _⟩
   ·cases h
  ·rw[brec']at h
   split at h
   ·rename_i hf
    rw[beq_iff]at hf;subst hf;unfold x89 at h
    split at h
    ·rename_i b
     cases h
     obtain⟨v,rfl,hd⟩:=al1 hv;have hd:v=.float .f64 b:=hd;subst hd;exact .inr ⟨_,β,w,V2.ext89 b w,rfl,hH,Mv.refl _ _⟩
    ·cases h
   ·rw[brec']at h
    split at h
    ·rename_i hf
     rw[beq_iff]at hf;subst hf;unfold x52 at h
     split at h
     ·cases h
      obtain⟨v,rfl,b,rfl,hN,hb⟩:=al1 hv;refine .inl ⟨V2.call52 _ w,(V2.key_nan b hN hb w).mono ?_⟩
      rintro e w' ⟨rfl,rfl⟩
      exact⟨_,β,rfl,rfl,hH,Mv.refl _ _⟩
     ·obtain⟨fn,h1,h2,h3⟩:=fits 52 b52 rfl
      exact .inl (body_ok mixed hG hO h1 h2 h3 h hH hv)
    ·cases h
 ·intro f ds hp nx d hp' nx' h
  unfold X1 at h⊢;rw[brec']at h
  split at h
  ·rename_i hf
   unfold x20 at h
   split at h
   ·cases h
    exact⟨fun _ h=>h,fun id e cs hn=>by rw[brec',if_pos hf];rfl⟩
   ·cases h
  ·rename_i hf
   rw[brec']at h
   split at h
   ·rename_i hf'
    unfold x89 at h
    split at h
    ·cases h
     exact⟨fun _ h=>h,fun id e cs hn=>by rw[brec',if_neg hf,brec',if_pos hf'];rfl⟩
    ·cases h
   ·rename_i hf'
    rw[brec']at h
    split at h
    ·rename_i hf''
     unfold x52 at h
     split at h
     ·cases h
      exact⟨fun _ h=>h,fun id e cs hn=>by rw[brec',if_neg hf,brec',if_neg hf',brec',if_pos hf''];rfl⟩
     ·rename_i hno
      obtain⟨k1,k2⟩:=body_frame hO h;refine⟨k1,fun id e cs hn=>?_⟩;rw[brec',if_neg hf,brec',if_neg hf',brec',if_pos hf''];unfold x52
      split
      ·exact absurd rfl hno
      ·exact k2 id e cs hn
    ·cases h
noncomputable def D1:Oracle:=den Tryz.prog F1 X1 100000 60
theorem D1_good:Good Tryz.prog D1:=(den_good mixed F1_fits X1_good 100000 60).1
noncomputable def D1s:Oracle:=subO 100000 D1
noncomputable def F2 (f:Nat):Option Fn:=Bool.rec (Bool.rec (F1 f) none (Nat.beq f 21)) none (Nat.beq f 19)
noncomputable def X2 (l:List Known):Oracle→Oracle:=fun O f ds hp nx=>
 Bool.rec (Bool.rec (X1 O f ds hp nx) (subO 100000 (memo l D1s) f ds hp nx) (Nat.beq f 21)) (subO 100000 (memo l D1s) f ds hp nx) (Nat.beq f 19)
noncomputable def D2 (l:List Known):Oracle:=den Tryz.prog F2 (X2 l) 100000 60
theorem F2_fits:Fits Tryz.prog F2:=by
 intro f b h;unfold F2 at h;rw[brec']at h
 split at h
 ·cases h
 ·rw[brec']at h
  split at h
  ·cases h
  ·exact F1_fits f b h
theorem D2_good {l:List Known} (hl:∀k∈l,KnownOk D1s k):Good Tryz.prog (D2 l):=by
 refine(den_good mixed F2_fits (fun O hG hO=>?_) 100000 60).1;obtain⟨g1,g2⟩:=X1_good O hG hO;have hs:Good Tryz.prog (subO 100000 (memo l D1s)):=by
  rw[memo_eq hl];exact subO_good (subO_good D1_good _) _
 have hr:Fr (subO 100000 (memo l D1s)):=subO_fr _;constructor
 ·intro f ds hp nx d hp' nx' h
  unfold X2 at h;rw[brec']at h
  split at h
  ·exact hs f ds hp nx d hp' nx' h
  ·rw[brec']at h
   split at h
   ·exact hs f ds hp nx d hp' nx' h
   ·exact g1 f ds hp nx d hp' nx' h
 ·intro f ds hp nx d hp' nx' h
  unfold X2 at h⊢;rw[brec']at h
  split at h
  ·rename_i hf
   obtain⟨k1,k2⟩:=hr f ds hp nx d hp' nx' h;exact⟨k1,fun id e cs hn=>by rw[brec',if_pos hf];exact k2 id e cs hn⟩
  ·rename_i hf
   rw[brec']at h
   split at h
   ·rename_i hf'
    obtain⟨k1,k2⟩:=hr f ds hp nx d hp' nx' h;exact⟨k1,fun id e cs hn=>by rw[brec',if_neg hf,brec',if_pos hf'];exact k2 id e cs hn⟩
   ·rename_i hf'
    obtain⟨k1,k2⟩:=g2 f ds hp nx d hp' nx' h;exact⟨k1,fun id e cs hn=>by rw[brec',if_neg hf,brec',if_neg hf'];exact k2 id e cs hn⟩
noncomputable def okK (k:Known):Bool:=match D1s k.f k.ds k.hp k.nx with
 |some (d,h,n)=>Bool.rec false (Bool.rec false (Pos.same n k.nx') (sameT h k.hp')) (sameD d k.d)
 |none=>false
theorem okK_ok {k:Known} (h:okK k=true):KnownOk D1s k:=by
 unfold okK at h;unfold KnownOk
 split at h
 ·rename_i d hp n hk
  rw[brec']at h
  split at h
  ·rename_i h1
   rw[brec']at h
   split at h
   ·rename_i h2
    rw[hk,sameD_spec h1,sameT_spec h2,Pos.same_spec.1 h]
   ·cases h
  ·cases h
 ·cases h
end Go.Proofs.YtiahijhpjloijaaGreat.V

