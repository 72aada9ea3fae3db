/- Parts of the proof, put together: P3. -/
import Derived.Test.YtiahijhpjloijaaGreatM37
import Derived.Test.YtiahijhpjloijaaGreatM35
set_option linter.unusedVariables false
set_option linter.unusedSimpArgs false
set_option maxRecDepth 100000
set_option maxHeartbeats 2000000
namespace Go.Proofs.YtiahijhpjloijaaGreat.V
open Go
noncomputable def wl (i:Nat):List U:=match nth (wd 6) i with|some (.fz _ _ l)=>l|_=>[]
theorem wd6_eq:wd 6=[.int .i64 0,.fz 1 19 (wl 1),.nil,.int .i64 0,.bool false,.fz 3 6 (wl 5),.fz 4 3 (wl 6),.int .i64 0,.nil,.nil,.fz 1 3 (wl 10),.fz 9 3 (wl 11),.int .i64 0,.int .i64 0,.int .i64 0,.bool true,.int .i64 0,.fz 20 3 (wl 17),.fz 3 0 (wl 18)]:=by kernel_rfl
theorem sh1:CfL XX.T 1 [] 1 19 (wl 1):=cfLB_ok (by kernel_rfl)
theorem sh5:CfL XX.T 5 [] 3 6 (wl 5):=cfLB_ok (by kernel_rfl)
theorem sh6:CfL XX.T 6 [] 4 3 (wl 6):=cfLB_ok (by kernel_rfl)
theorem sh10:CfL XX.T 2 [] 1 3 (wl 10):=cfLB_ok (by kernel_rfl)
theorem sh11:CfL XX.T 9 [] 9 3 (wl 11):=cfLB_ok (by kernel_rfl)
theorem sh17:CfL XX.T 14 [2,0] 20 3 (wl 17):=cfLB_ok (by kernel_rfl)
theorem sh18:CfL XX.T 12 [] 3 0 (wl 18):=cfLB_ok (by kernel_rfl)
theorem wd_len (i:Nat) (hi:i<7):(wd i).length=19:=by
 have h:allN (fun i=>Nat.beq (len (wd i)) 19) 7=true:=by kernel_rfl
 have:=allN_spec h i hi;rw[beq_iff,len_eq]at this;exact this
theorem ud_len (i:Nat) (hi:i<6):(ud i).length=19:=by
 have h:allN (fun i=>Nat.beq (len (ud i)) 19) 6=true:=by kernel_rfl
 have:=allN_spec h i hi;rw[beq_iff,len_eq]at this;exact this
section
variable{e:AEnv}
theorem gInt {k:IntKind} {v:Nat} {c:Int} (h:e.ρ v=c):gaC XX e (.int k (0,[(v,1)])) (.v (.int k c)):=by
 show G.v (.int k c)=.v (.int k (0+(1*e.ρ v+0)));rw[h,Int.one_mul,Int.add_zero,Int.zero_add]
theorem gBooT {v:Nat} (h:e.ρ v=0):gaC XX e (.bool (.ge (0,[(v,1)]))) (.v (.bool true)):=by
 show G.v (.bool true)=.v (.bool (decide (0≤0+(1*e.ρ v+0))));rw[h];rfl
theorem gBooF {v:Nat} (h:e.ρ v= -1):gaC XX e (.bool (.ge (0,[(v,1)]))) (.v (.bool false)):=by
 show G.v (.bool false)=.v (.bool (decide (0≤0+(1*e.ρ v+0))));rw[h];rfl
theorem gSl0 {t v nm:Nat} {ps:List Lin} (h:e.ρ v=0):gaC XX e (.sl t ps (0,[(v,1)]) nm) (.v .nil):=.inl ⟨rfl,by show 0+(1*e.ρ v+0)=0;omega⟩
theorem gSlF {t v nm k n:Nat} {l:List U} (h:e.ρ v=n) (hl:e.L nm=l) (hc:CfL XX.T t [] k n l):gaC XX e (.sl t [] (0,[(v,1)]) nm) (.v (.fz k n l)):=
 .inr ⟨k,n,by rw[hl],by show(n:Int)=0+(1*e.ρ v+0);omega,by rw[hl];exact hc⟩
theorem gSlP {t v a b nm k n:Nat} {l:List U} {x y:Int} (hx:e.ρ a=x) (hy:e.ρ b=y) (h:e.ρ v=n) (hl:e.L nm=l) (hc:CfL XX.T t [x,y] k n l):gaC XX e (.sl t [(0,[(a,1)]),(0,[(b,1)])] (0,[(v,1)]) nm) (.v (.fz k n l)):=
 .inr ⟨k,n,by rw[hl],by show(n:Int)=0+(1*e.ρ v+0);omega,by
   show CfL XX.T t [0+(1*e.ρ a+0),0+(1*e.ρ b+0)] k n (e.L nm);rw[hx,hy,hl,Int.one_mul,Int.one_mul,Int.add_zero,Int.add_zero,Int.zero_add,Int.zero_add];exact hc⟩
end
noncomputable def eR (n2:Nat) (u2:U) (a2 a3:Nat):AEnv:=
 ⟨fun v=>match v with|0=>n2|1=>0|3=>19|6=>(-1)|7=>6|8=>3|12=>3|13=>3|19=>3|20=>2|_=>0,fun v=>match v with|24=>a2|25=>a3|_=>0,fun _=>true,fun v=>match v with|0=>lstU u2|3=>wl 1|7=>wl 5|8=>wl 6|12=>wl 10|13=>wl 11|19=>wl 17|22=>wl 18|_=>[]⟩
theorem tget3 {a b c p:Pos} {x y z d:AD} (h:Tr.get p (Tr.set a x (Tr.set b y (Tr.set c z .e)))=some d):(p=a∧d=x)∨(p=b∧d=y)∨(p=c∧d=z):=by
 by_cases h1:a=p
 ·subst h1;rw[Tr.get_set_eq]at h;cases h;exact .inl ⟨rfl,rfl⟩
 ·rw[Tr.get_set_ne _ _ h1]at h
  by_cases h2:b=p
  ·subst h2;rw[Tr.get_set_eq]at h;cases h;exact .inr (.inl ⟨rfl,rfl⟩)
  ·rw[Tr.get_set_ne _ _ h2]at h
   by_cases h3:c=p
   ·subst h3;rw[Tr.get_set_eq]at h;cases h;exact .inr (.inr ⟨rfl,rfl⟩)
   ·rw[Tr.get_set_ne _ _ h3,TrE]at h;cases h
theorem find3 {α:Type} {a b c nm:Nat} {x y z d:α} (h:findO nm [(a,x),(b,y),(c,z)]=some d):(nm=a∧d=x)∨(nm=b∧d=y)∨(nm=c∧d=z):=by
 rw[findO_cons]at h
 split at h
 ·rename_i hh;subst hh;cases h;exact .inl ⟨rfl,rfl⟩
 ·rw[findO_cons]at h
  split at h
  ·rename_i hh;subst hh;cases h;exact .inr (.inl ⟨rfl,rfl⟩)
  ·rw[findO_cons]at h
   split at h
   ·rename_i hh;subst hh;cases h;exact .inr (.inr ⟨rfl,rfl⟩)
   ·cases h
theorem find3n {α:Type} {a b c nm:Nat} {x y z:α} (h:findO nm [(a,x),(b,y),(c,z)]≠none):nm=a∨nm=b∨nm=c:=by
 cases hf:findO nm [(a,x),(b,y),(c,z)]with
 |none=>exact absurd hf h
 |some d=>rcases find3 hf with⟨h,_⟩|⟨h,_⟩|⟨h,_⟩<;>simp[h]
theorem w_rest {u2:U} {n2 a2 a3:Nat} {g:GS} (h2:Byt u2 n2) (hn2:n2≤30) (n02:0≠a2) (n03:0≠a3) (n23:a2≠a3) (hS:S10 a2 a3 (.ob 72 false (mapsV [u2,.int .i64 0])) (wd 6) g):W XX (eR n2 u2 a2 a3) st10 g:=by
 obtain⟨h0,hh2,h3,w0,w2,w3⟩:=hS;intro e' he';have hnv:st10.nv=26:=by unfold st10;rw[facts_nv]
 rw[hnv]at he';have r0:e'.ρ 0=n2:=(he' 0 (by decide)).1;have r1:e'.ρ 1=0:=(he' 1 (by decide)).1;have r2:e'.ρ 2=0:=(he' 2 (by decide)).1;have r3:e'.ρ 3=19:=(he' 3 (by decide)).1;have r4:e'.ρ 4=0:=(he' 4 (by decide)).1;have r5:e'.ρ 5=0:=(he' 5 (by decide)).1;have r6:e'.ρ 6=(-1):=(he' 6 (by decide)).1;have r7:e'.ρ 7=6:=(he' 7 (by decide)).1;have r8:e'.ρ 8=3:=(he' 8 (by decide)).1;have r9:e'.ρ 9=0:=(he' 9 (by decide)).1;have r10:e'.ρ 10=0:=(he' 10 (by decide)).1;have r11:e'.ρ 11=0:=(he' 11 (by decide)).1;have r12:e'.ρ 12=3:=(he' 12 (by decide)).1;have r13:e'.ρ 13=3:=(he' 13 (by decide)).1;have r14:e'.ρ 14=0:=(he' 14 (by decide)).1;have r15:e'.ρ 15=0:=(he' 15 (by decide)).1;have r16:e'.ρ 16=0:=(he' 16 (by decide)).1;have r17:e'.ρ 17=0:=(he' 17 (by decide)).1;have r18:e'.ρ 18=0:=(he' 18 (by decide)).1;have r19:e'.ρ 19=3:=(he' 19 (by decide)).1;have r20:e'.ρ 20=2:=(he' 20 (by decide)).1;have r21:e'.ρ 21=0:=(he' 21 (by decide)).1;have r22:e'.ρ 22=0:=(he' 22 (by decide)).1;have l0:e'.L 0=lstU u2:=(he' 0 (by decide)).2.2.2;have l3:e'.L 3=wl 1:=(he' 3 (by decide)).2.2.2;have l7:e'.L 7=wl 5:=(he' 7 (by decide)).2.2.2;have l8:e'.L 8=wl 6:=(he' 8 (by decide)).2.2.2;have l12:e'.L 12=wl 10:=(he' 12 (by decide)).2.2.2;have l13:e'.L 13=wl 11:=(he' 13 (by decide)).2.2.2;have l19:e'.L 19=wl 17:=(he' 19 (by decide)).2.2.2;have l22:e'.L 22=wl 18:=(he' 22 (by decide)).2.2.2;have q23:e'.ν 23=0:=(he' 23 (by decide)).2.1;have q24:e'.ν 24=a2:=(he' 24 (by decide)).2.1;have q25:e'.ν 25=a3:=(he' 25 (by decide)).2.1;have o23:e'.on 23=true:=(he' 23 (by decide)).2.2.1;have o24:e'.on 24=true:=(he' 24 (by decide)).2.2.1;have o25:e'.on 25=true:=(he' 25 (by decide)).2.2.1;unfold st10;refine facts_ok ⟨?_,?_,?_,?_,fun p x hp=>(by rw[TrE]at hp;cases hp)⟩ ?_
 ·intro p d hp
  dsimp only at hp;refine .inr ?_;rcases tget3 hp with⟨rfl,rfl⟩|⟨rfl,rfl⟩|⟨rfl,rfl⟩
  ·exact⟨_,h0,o23,by rw[q23]⟩
  ·exact⟨_,hh2,o24,by rw[q24]⟩
  ·exact⟨_,h3,o25,by rw[q25]⟩
 ·intro nm ao hf hon
  dsimp only at hf;rcases find3 hf with⟨rfl,rfl⟩|⟨rfl,rfl⟩|⟨rfl,rfl⟩
  ·refine⟨_,by rw[q23,←nth_eq];exact w0,_,rfl,?_⟩
   exact .cons (byt_sl h2 (x:=(0,[(0,1)])) (by show 0+(1*e'.ρ 0+0)=_;rw[r0];omega) l0) (.cons (gInt r1) .nil)
  ·refine⟨_,by rw[q24,←nth_eq];exact w2,_,rfl,?_⟩
   exact .cons rfl (.cons rfl (.cons rfl (.cons rfl (.cons rfl (.cons rfl (.cons rfl (.cons rfl (.cons rfl (.cons rfl (.cons rfl (.cons rfl (.cons rfl (.cons rfl (.cons rfl (.cons rfl (.cons rfl (.cons rfl (.cons rfl .nil))))))))))))))))))
  ·refine⟨_,by rw[q25,←nth_eq];exact w3,_,rfl,?_⟩
   rw[wd6_eq];exact .cons (gInt (r2.trans rfl)) (.cons (gSlF (r3.trans rfl) (l3.trans rfl) sh1) (.cons (gSl0 (r4.trans rfl)) (.cons (gInt (r5.trans rfl)) (.cons (gBooF (r6.trans rfl)) (.cons (gSlF (r7.trans rfl) (l7.trans rfl) sh5) (.cons (gSlF (r8.trans rfl) (l8.trans rfl) sh6) (.cons (gInt (r9.trans rfl)) (.cons (gSl0 (r10.trans rfl)) (.cons (gSl0 (r11.trans rfl)) (.cons (gSlF (r12.trans rfl) (l12.trans rfl) sh10) (.cons (gSlF (r13.trans rfl) (l13.trans rfl) sh11) (.cons (gInt (r14.trans rfl)) (.cons (gInt (r15.trans rfl)) (.cons (gInt (r16.trans rfl)) (.cons (gBooT (r17.trans rfl)) (.cons (gInt (r18.trans rfl)) (.cons (gSlP (r20.trans rfl) (r21.trans rfl) (r19.trans rfl) (l19.trans rfl) sh17) (.cons (gSlF (r22.trans rfl) (l22.trans rfl) sh18) .nil))))))))))))))))))
 ·intro x y hx hy _ _ he
  dsimp only at hx hy;rcases find3n hx with rfl|rfl|rfl<;>rcases find3n hy with rfl|rfl|rfl<;>first|rfl|(simp only[q23,q24,q25]at he;omega)
 ·intro z hz;cases hz
 ·intro x hx
  simp only[rfa,List.mem_cons,List.not_mem_nil,or_false]at hx;rcases hx with rfl|rfl|rfl|rfl|rfl|rfl|rfl|rfl|rfl|rfl|rfl|rfl|rfl|rfl|rfl|rfl|rfl|rfl|rfl|rfl|rfl|rfl|rfl|rfl|rfl|rfl|rfl|rfl|rfl|rfl|rfl|rfl|rfl|rfl|rfl|rfl<;>simp only[lv,evl,r0,r1,r2,r3,r4,r5,r6,r7,r8,r9,r10,r11,r12,r13,r14,r15,r16,r17,r18,r19,r20,r21,r22]<;>omega
end Go.Proofs.YtiahijhpjloijaaGreat.V

