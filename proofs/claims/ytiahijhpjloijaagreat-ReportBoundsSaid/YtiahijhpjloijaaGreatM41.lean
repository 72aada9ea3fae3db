/- Parts of the proof, put together: T5. -/
import Derived.Test.YtiahijhpjloijaaGreatM40
set_option linter.unusedVariables false
set_option linter.unusedSimpArgs false
namespace Go.Proofs.YtiahijhpjloijaaGreat.V
open Go
open Fl (isN rung)
noncomputable def okM (n s:Nat):Bool:=match Fl.D.div (fl s) (fl n)with
 |some q=>Nat.ble (fl (Nat.div s n)) q&&Nat.ble q (fl (Nat.div (s+(n-1)) n))
 |none=>false
noncomputable def okMn (n:Nat):Bool:=allN (okM n) (49*n+1)
theorem okM1:allN (fun i=>okMn (i+1)) 6=true:=by kernel_rfl
theorem okM2:allN (fun i=>okMn (i+7)) 4=true:=by kernel_rfl
theorem okM3:allN (fun i=>okMn (i+11)) 3=true:=by kernel_rfl
theorem okM4:allN (fun i=>okMn (i+14)) 3=true:=by kernel_rfl
theorem okM5:allN (fun i=>okMn (i+17)) 2=true:=by kernel_rfl
theorem okM_all {n s:Nat} (h0:1≤n) (hn:n≤18) (hs:s≤49*n):okM n s=true:=by
 have h:okMn n=true:=by
  by_cases h1:n<7
  ·have:=allN_spec okM1 (n-1) (by omega)
   rw[show n-1+1=n by omega]at this;exact this
  ·by_cases h2:n<11
   ·have:=allN_spec okM2 (n-7) (by omega)
    rw[show n-7+7=n by omega]at this;exact this
   ·by_cases h3:n<14
    ·have:=allN_spec okM3 (n-11) (by omega)
     rw[show n-11+11=n by omega]at this;exact this
    ·by_cases h4:n<17
     ·have:=allN_spec okM4 (n-14) (by omega)
      rw[show n-14+14=n by omega]at this;exact this
     ·have:=allN_spec okM5 (n-17) (by omega)
      rw[show n-17+17=n by omega]at this;exact this
 exact allN_spec h s (by omega)
theorem fl_le {a b:Nat} (h:a≤b) (hb:b≤1000):fl a≤fl b:=by
 rcases Nat.lt_or_eq_of_le h with h1|rfl
 ·exact Nat.le_of_lt (fl_lt h1 hb)
 ·exact Nat.le_refl _
theorem mean_in {n s m M:Nat} (h0:1≤n) (hn:n≤18) (h1:n*m≤s) (h2:s≤n*M) (hM:M≤49):∃q,quoU (fl s) (fl n)=.flt q∧fl m≤q∧q≤fl M:=by
 have hs:s≤49*n:=Nat.le_trans h2 (by rw[Nat.mul_comm];exact Nat.mul_le_mul_right _ hM);have hk:=okM_all h0 hn hs;unfold okM at hk;unfold quoU
 split at hk
 ·rename_i q hq
  rw[Bool.and_eq_true,ble_iff,ble_iff]at hk;have d1:m≤s/n:=(Nat.le_div_iff_mul_le (by omega)).2 (by rw[Nat.mul_comm];exact h1);have d2:(s+(n-1))/n≤M:=by
   apply Nat.le_of_lt_succ;rw[Nat.div_lt_iff_lt_mul (by omega),Nat.succ_mul,Nat.mul_comm M n];omega
  have d3:s/n≤1000:=Nat.le_trans (Nat.div_le_self _ _) (by omega);rw[hq];exact⟨q,rfl,Nat.le_trans (fl_le d1 d3) hk.1,Nat.le_trans hk.2 (fl_le d2 (by omega))⟩
 ·cases hk
theorem run_min {x:Nat→Nat}:∀i j,j≤i→runN ltN x i≤x j
 |0,j,h=>by rw[Nat.le_zero.1 h];exact Nat.le_refl _
 |i+1,j,h=>by
  unfold runN;have ih:=run_min (x:=x) i
  cases hb:ltN (x (i+1)) (runN ltN x i)
  ·have hb:=of_decide_eq_false hb
   show runN ltN x i≤x j;rcases Nat.lt_or_eq_of_le h with h1|rfl
   ·exact ih j (by omega)
   ·omega
  ·have hb:=of_decide_eq_true hb
   show x (i+1)≤x j;rcases Nat.lt_or_eq_of_le h with h1|rfl
   ·have:=ih j (by omega);omega
   ·exact Nat.le_refl _
theorem run_max {x:Nat→Nat}:∀i j,j≤i→x j≤runN gtN x i
 |0,j,h=>by rw[Nat.le_zero.1 h];exact Nat.le_refl _
 |i+1,j,h=>by
  unfold runN;have ih:=run_max (x:=x) i
  cases hb:gtN (x (i+1)) (runN gtN x i)
  ·have hb:=of_decide_eq_false hb
   show x j≤runN gtN x i;rcases Nat.lt_or_eq_of_le h with h1|rfl
   ·exact ih j (by omega)
   ·omega
  ·have hb:=of_decide_eq_true hb
   show x j≤x (i+1);rcases Nat.lt_or_eq_of_le h with h1|rfl
   ·have:=ih j (by omega);omega
   ·exact Nat.le_refl _
theorem run_pos {lt:Nat→Nat→Bool} {x:Nat→Nat} {N:Nat} (h:∀i,i<N→1≤x i):∀i,i<N→1≤runN lt x i
 |0,hi=>h 0 hi
 |i+1,hi=>by
  have h1:=run_pos (lt:=lt) h i (by omega);have h2:=h (i+1) hi;unfold runN
  cases lt (x (i+1)) (runN lt x i)
  ·exact h1
  ·exact h2
theorem sum_ge {x:Nat→Nat} {m:Nat}:∀i,(∀j,j<i→m≤x j)→i*m≤sumN x i
 |0,_=>by rw[Nat.zero_mul];exact Nat.zero_le _
 |i+1,h=>by
  have h1:=sum_ge (x:=x) (m:=m) i (fun j hj=>h j (by omega));have h2:=h i (by omega);unfold sumN;rw[Nat.succ_mul];omega
theorem sum_le {x:Nat→Nat} {m:Nat}:∀i,(∀j,j<i→x j≤m)→sumN x i≤i*m
 |0,_=>Nat.zero_le _
 |i+1,h=>by
  have h1:=sum_le (x:=x) (m:=m) i (fun j hj=>h j (by omega));have h2:=h i (by omega);unfold sumN;rw[Nat.succ_mul];omega
section
variable{ws cl:List U} {fs:Nat→List U} {h a nw:Nat→Int} {mo un:Nat→Nat→Int}
theorem sumW3 {x:Nat→Int} (hx:∀i,i<3→0≤x i∧x i≤665):sumW x 3=.ofNat ((x 0).toNat+(x 1).toNat+(x 2).toNat):=by
 have h0:=hx 0 (by omega);have h1:=hx 1 (by omega);have h2:=hx 2 (by omega);show wrapC .i64 (wrapC .i64 (wrapC .i64 (0+x 0)+x 1)+x 2)=((((x 0).toNat+(x 1).toNat+(x 2).toNat:Nat)):Int);simp only[wrap_w];omega
theorem allW3 (hh:∀i,i<3→0≤h i∧h i≤665) (ha:∀i,i<3→0≤a i∧a i≤665):allW h a 3=.ofNat ((h 0).toNat+(h 1).toNat+(h 2).toNat+((a 0).toNat+(a 1).toNat+(a 2).toNat)):=by
 have h0:=hh 0 (by omega);have h1:=hh 1 (by omega);have h2:=hh 2 (by omega);have a0:=ha 0 (by omega);have a1:=ha 1 (by omega);have a2:=ha 2 (by omega);rw[all_sum,sumW3 hh,sumW3 ha];show wrapC .i64 (((((h 0).toNat+(h 1).toNat+(h 2).toNat:Nat)):Int)+((((a 0).toNat+(a 1).toNat+(a 2).toNat:Nat)):Int))=((((h 0).toNat+(h 1).toNat+(h 2).toNat+((a 0).toNat+(a 1).toNat+(a 2).toNat):Nat)):Int);rw[wrap_w];omega
theorem rep0_ok {N:Int} (hN:N≤665) (hh:∀i,i<3→0≤h i∧h i≤N∧0≤a i∧a i≤N∧1≤a i+0):∃q,rep0 h a=.flt q∧q≤4607182418800017408:=by
 have e1:=sumW3 (x:=h) (fun i hi=>⟨(hh i hi).1,by have:=(hh i hi).2.1;omega⟩);have e2:=allW3 (h:=h) (a:=a) (fun i hi=>⟨(hh i hi).1,by have:=(hh i hi).2.1;omega⟩) (fun i hi=>⟨(hh i hi).2.2.1,by have:=(hh i hi).2.2.2.1;omega⟩);have b0:=hh 0 (by omega);have b1:=hh 1 (by omega);have b2:=hh 2 (by omega);unfold rep0;rw[e1,e2];obtain⟨q,h1,h2⟩:=share_le (h:=(h 0).toNat+(h 1).toNat+(h 2).toNat) (a:=(h 0).toNat+(h 1).toNat+(h 2).toNat+((a 0).toNat+(a 1).toNat+(a 2).toNat)) (by omega) (by omega) (by omega);refine⟨q,?_,h2⟩;show quoU (fl _) (fl _)=_;unfold quoU;rw[h1]
theorem reps_in (w:WOk ws cl fs h a nw mo un) (hne:left nw mo un≠[]):∃q m M,rep1 (left nw mo un)=.flt q∧rep2 (left nw mo un)=.flt (fl m)∧rep3 (left nw mo un)=.flt (fl M)∧(1≤m∧m≤49)∧fl m≤q∧q≤fl M∧M≤49:=by
 have hs:=left_sml w hne;obtain⟨e1,_,e3,e4⟩:=rep_ne hne;have hp:∀i,i<(left nw mo un).length→1≤nx (left nw mo un) i:=by
  intro i hi;have:nx (left nw mo un) i∈left nw mo un:=by
   unfold nx;rw[List.getD_eq_getElem?_getD,List.getElem?_eq_getElem hi];exact List.getElem_mem hi
  exact(left_mem w this).1
 have hl:1≤(left nw mo un).length:=List.length_pos_iff.2 hne;have hM:=runN_le (lt:=gtN) (x:=nx (left nw mo un)) (N:=(left nw mo un).length) (fun i hi=>nx_le hs hi) ((left nw mo un).length-1) (by omega);obtain⟨q,q1,q2,q3⟩:=mean_in (s:=sumN (nx (left nw mo un)) (left nw mo un).length) hl hs.2.1 (sum_ge (m:=runN ltN (nx (left nw mo un)) ((left nw mo un).length-1)) _ (fun j hj=>run_min _ j (by omega))) (sum_le (m:=runN gtN (nx (left nw mo un)) ((left nw mo un).length-1)) _ (fun j hj=>run_max _ j (by omega))) hM;exact⟨q,_,_,e1.trans q1,e3,e4,⟨run_pos hp _ (by omega),runN_le (lt:=ltN) (x:=nx (left nw mo un)) (N:=(left nw mo un).length) (fun i hi=>nx_le hs hi) _ (by omega)⟩,q2,q3,hM⟩
end
end Go.Proofs.YtiahijhpjloijaaGreat.V

