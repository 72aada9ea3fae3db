/- Parts of the proof, put together: T9. -/
import Derived.Test.YtiahijhpjloijaaGreatM43
import Derived.OpenShut
set_option linter.unusedVariables false
set_option linter.unusedSimpArgs false
namespace Go.Proofs.YtiahijhpjloijaaGreat.V
open Go Go.RowKit
def BF (w:World):Blk:=⟨fun _=>none,fun b=>match w.heap[b]? with|some (.cells c e fz)=>some (c,e,fz)|_=>none⟩
theorem BF_get {w:World} {b:Nat} {c:Array Value} {e:TypeId} {fz:Nat×Nat} (h:w.heap[b]?=some (.cells c e fz)):(BF w).F b=some (c,e,fz):=by
 unfold BF;simp only[h]
theorem HV_bf (w:World):HV (BF w) .e w:=by
 refine⟨fun _ _ h=>(by cases h),fun _ _ _ _ _ _ _ _ _ h=>(by rw[Tr.get_e]at h;cases h),fun _ _ _ h=>(by rw[Tr.get_e]at h;cases h),fun b c e fz h=>?_⟩;have h:(match w.heap[b]? with|some (.cells c e fz)=>some (c,e,fz)|_=>none)=some (c,e,fz):=h
 split at h
 ·rename_i hb;cases h;exact⟨hb,fun _ _ h=>by cases h⟩
 ·cases h
def ByteRow (w:World) (a:Option Addr) (len cap:Nat) (zs:List Int):Prop:=
 (a=none∧len=0∧cap=0∧zs=[])∨
 ∃x,a=some x∧len≤cap∧cap≤maxLen∧zs.length=cap∧(∀i,i<zs.length→w.cell? (x.add i)=some (.int .u8 (zs.getD i 0)))∧∀n∈zs,(Lit.int .u8 n).wf=true
theorem byt_uB {bs:List Nat} (h:∀b∈bs,b<256):Byt (.fz 1 bs.length (uB bs)) bs.length:=by
 refine .inr ⟨1,_,rfl,rfl,by unfold uB;rw[List.length_map,Nat.mul_one],fun j hj=>?_⟩;have hg:((uB bs).drop (j*1)).take 1=[.int .u8 (.ofNat bs[j])]:=by
  unfold uB;rw[Nat.mul_one,←List.map_drop,List.drop_eq_getElem_cons hj];rfl
 rw[hg];have hb:=h _ (List.getElem_mem hj);refine .mk 0 [] _ ⟨[.int .u8],[(0,[(0,1)]),(255,[(0,(-1))])],[]⟩ [.ofNat bs[j]] rfl (.cons _ _ _ _ _ _ _ (.int _ _ _) (.nil _)) ?_;intro x hx;have e:sval [Int.ofNat bs[j]] [] 0=(bs[j]:Int):=rfl;simp only[List.mem_cons,List.not_mem_nil,or_false]at hx;rcases hx with rfl|rfl
 ·show 0≤0+(1*sval [Int.ofNat bs[j]] [] 0+0);rw[e];omega
 ·show 0≤255+((-1)*sval [Int.ofNat bs[j]] [] 0+0);rw[e];omega
theorem byte_arg {w:World} {a:Option Addr} {len cap:Nat} {zs:List Int} (h:ByteRow w a len cap zs):∃c u,CV (BF w) c (.slice a len cap)∧RU (fun _=>False) .e u c∧Byt u len:=by
 rcases h with⟨rfl,rfl,rfl,rfl⟩|⟨x,rfl,hl,hm,hz,hc,hw⟩
 ·exact⟨.nil,.nil,rfl,by rw[RU],.inl ⟨rfl,rfl⟩⟩
 ·by_cases h0:len=0
  ·subst h0
   exact⟨.emp,.fz 1 0 [],⟨x,cap,rfl⟩,by rw[RU];exact .inl ⟨rfl,rfl,.inr rfl⟩,byt_uB (bs:=[]) (by intro b hb;cases hb)⟩
  ·have hb0:∀n∈zs,0≤n∧n≤255:=fun n hn=>bounds_u8 (hw n hn)
   have hx:∃c e fz,w.heap[x.block]?=some (.cells c e fz)∧x.spot=none:=by
    have h1:=hc 0 (by omega);have h1:w.cell? x=_:=h1;unfold World.cell? at h1
    split at h1
    ·rename_i c e fz hh
     split at h1
     ·cases h1
     ·rename_i hs
      exact⟨c,e,fz,hh,by cases hsp:x.spot with|none=>rfl|some s=>rw[hsp]at hs;exact absurd rfl hs⟩
    ·cases h1
   obtain⟨c,e,fz,hh,hs⟩:=hx;have hbs:((zs.take len).map Int.toNat).length=len:=by rw[List.length_map,List.length_take];omega
   have hlt:∀b∈(zs.take len).map Int.toNat,b<256:=by
    intro b hb;obtain⟨z,hz1,rfl⟩:=List.mem_map.1 hb;have:=hb0 z (List.mem_of_mem_take hz1);omega
   refine⟨.fs x.block x.off ((zs.take len).map Int.toNat),.fz 1 len (uB ((zs.take len).map Int.toNat)),⟨⟨⟨c,e,fz,BF_get hh,?_⟩,hlt⟩,cap,?_,by rw[hbs];exact hl⟩,?_,?_⟩
   ·intro i y hy
    rw[List.getElem?_map,Option.map_eq_some_iff]at hy;obtain⟨z,hz1,rfl⟩:=hy;have hi:i<len:=by
     rcases Nat.lt_or_ge i (zs.take len).length with hh|hh
     ·rw[List.length_take]at hh;omega
     ·rw[List.getElem?_eq_none hh]at hz1;cases hz1
    rw[List.getElem?_take_of_lt hi]at hz1;have h1:=hc i (by omega);rw[List.getD_eq_getElem?_getD,hz1]at h1;have hzz:=hb0 z (List.mem_of_getElem? hz1);have e1:((z.toNat:Nat):Int)=z:=by omega
    rw[e1];unfold World.cell? at h1;have hbk:(x.add i).block=x.block:=by unfold Addr.add;split<;>rfl
    have hof:(x.add i).off=x.off+i:=by
     unfold Addr.add
     split
     ·rename_i h;subst h;rfl
     ·rfl
    have hsp:(x.add i).spot=none:=by
     unfold Addr.add
     split
     ·exact hs
     ·rfl
    rw[hbk,hh]at h1;simp only[hsp,hof]at h1;exact h1
   ·rw[hbs]
    obtain⟨xb,xo,xs⟩:=x;have hs:xs=none:=hs;subst hs;rfl
   ·rw[RU]
    exact .inr (.inr (.inr ⟨_,_,_,rfl,rfl,hbs.symm,rfl⟩))
   ·have h2:=byt_uB hlt
    rw[hbs]at h2;exact h2
theorem bounds_walk {w:World} {a0 a1:Option Addr} {l0 l1 c0 c1:Nat} {z0 z1:List Int} (h0:ByteRow w a0 l0 c0 z0) (h1:ByteRow w a1 l1 c1 z1):
 Calls Tryz.prog 4 #[.slice a0 l0 c0,.slice a1 l1 c1] w fun e w'=>e=.returned (.bool true)∧Below w.heap.size w w':=by
 obtain⟨cp,up,v0,r0,b0⟩:=byte_arg h0;obtain⟨cm,um,v1,r1,b1⟩:=byte_arg h1;obtain⟨H,hL⟩:=law4 b0 b1;have hRH:RH ⟨fun _=>none,fun _=>False⟩ [] .e:=⟨fun i e fr cs h=>(by cases h),fun i j p h=>(by cases h),fun i p h=>(by cases h),fun i p h=>(by cases h),fun p h=>h.elim,fun i p h=>(by cases h),fun i h=>absurd h (Nat.not_lt_zero _)⟩;obtain⟨D,hp',nx',E',hb,hd,_,_,_,_⟩:=gbody_ok (O2_good 20) (okFns 4 b4 rfl) hL (hp:=.e) (nx:=.h) (Ds:=[.one cp,.one cm]) hRH (.cons r0 (.cons r1 .nil)) (fun p h=>absurd (Tr.get_e p) h);have hD:D=.one (.bool true):=by
  cases D with
  |one c=>
   have hd:RU E'.fz hp' (.bool true) c:=hd;rw[RU]at hd;rw[hd]
  |ag _=>exact hd.elim
  |tup _=>exact hd.elim
 subst hD;obtain⟨fn,f1,f2,f3⟩:=fits 4 b4 rfl;have hv:Al (DV (BF w)) [.one cp,.one cm] (#[Value.slice a0 l0 c0,.slice a1 l1 c1]:Array Value).toList:=.cons v0 (.cons v1 .nil);obtain⟨_,hc⟩:=body_ok mixed (O1_good 20) (O1_fr 20) f1 f2 f3 hb (HV_bf w) hv;refine hc.mono ?_
 rintro e w' ⟨v,β',rfl,h3,_,h5⟩
 have h3:v=.bool true:=h3;subst h3;exact⟨rfl,h5.below⟩
end Go.Proofs.YtiahijhpjloijaaGreat.V

